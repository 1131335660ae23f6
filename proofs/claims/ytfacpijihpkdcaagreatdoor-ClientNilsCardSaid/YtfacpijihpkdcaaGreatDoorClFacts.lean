/-
  The closed facts of a row, one after another.
-/
import Derived.Test.YtfacpijihpkdcaaGreatDoorRows
import Derived.JoinedOf
import Derived.KernelRfl
import GoSem.ClaimSeven
namespace Go.Proofs.YtfacpijihpkdcaaGreatDoor
open Go
theorem clientNils_laidOut : laidOutB Tryz.prog = true := by kernel_rfl
theorem clientNils_mapsRowed : mapsRowed Tryz.prog = true := by kernel_rfl
theorem clientNils_closure : Tryz.prog.closure 3 = [3, 4, 5, 20, 50, 51, 86, 122, 187, 138, 189, 190, 46, 81, 188, 287, 123, 24, 88, 132, 29, 87, 124, 125, 191, 288, 363, 359, 222, 307, 426, 224, 223, 364, 365, 366, 126, 192, 289, 295, 377, 427, 367, 218, 137, 48, 84, 368, 369, 370, 372, 371, 373, 128, 127, 193, 290, 374, 95, 291, 129, 154, 226, 227, 309, 194, 195, 292, 375, 293, 376, 62, 98, 256, 335, 320, 336, 405, 395, 432, 337, 407, 197, 406, 322, 338, 339, 408, 409, 436, 410, 245, 321, 394, 396, 433, 434, 446, 455, 397, 398, 435, 447, 448, 456, 461, 130, 196, 294, 198, 296, 199, 297, 131, 200, 298, 378, 428, 201, 153, 202, 203, 204, 299, 120, 185, 286, 100, 140, 216, 217, 139, 207, 213, 306, 208, 301, 209, 302, 303, 210, 304, 305, 380, 211, 212, 214, 215, 89, 90, 133, 91, 52, 92, 134, 205, 93, 135, 206, 300, 379, 136, 94, 6, 21, 53, 22, 54, 23, 25, 55, 26, 9, 28, 31, 57, 96, 58, 59, 60, 97, 61, 63, 64, 32, 65, 33, 66, 99, 69, 37, 10, 35, 34, 67, 36, 68, 38, 39, 70, 71, 72, 40, 73, 41, 74, 101, 102, 75, 103, 104, 141, 219, 142, 143, 220, 144, 145, 146, 76, 105, 106, 77, 78, 107, 147, 108, 148, 27, 56, 47, 82, 114, 115, 155, 228, 83, 116, 156, 163, 167, 161, 235, 312, 246, 323, 313, 241, 251, 329, 160, 238, 316, 390, 317, 237, 315, 389, 240, 318, 391, 239, 157, 229, 230, 310, 381, 382, 429, 383, 384, 430, 431, 445, 385, 386, 387, 388, 231, 232, 311, 158, 233, 159, 234, 236, 314, 242, 319, 392, 393, 162, 243, 244, 117, 164, 168, 247, 324, 248, 165, 249, 325, 326, 340, 166, 250, 327, 328, 169, 170, 171, 252, 253, 330, 183, 281, 358, 280, 357, 424, 282, 263, 332, 331, 399, 254, 333, 400, 401, 402, 255, 334, 403, 404, 172, 257, 258, 173, 175, 259, 174, 260, 261, 176, 262, 264, 342, 341, 411, 343, 344, 412, 360, 425, 437, 449, 45, 80, 413, 438, 450, 457, 458, 462, 463, 459, 460, 464, 465, 466, 467, 265, 118, 177, 266, 268, 269, 348, 270, 349, 272, 346, 345, 414, 178, 267, 347, 179, 271, 350, 351, 415, 439, 180, 273, 274, 181, 275, 276, 352, 417, 416, 277, 353, 418, 419, 440, 182, 278, 354, 355, 420, 421, 422, 441, 442, 451, 444, 453, 452, 443, 454, 423, 279, 356, 119, 184, 283, 284, 361, 285, 362, 109, 110, 8, 30, 7, 11, 42, 12, 13, 14, 43, 44, 79, 111, 149, 150, 221, 112, 151, 113, 152, 225, 308, 17, 15, 16, 18, 19, 49, 85, 121, 186] := by kernel_rfl
theorem clientNils_inPlace : (Rows.clientNilsRow.inPlace == Tryz.prog.inPlace 3) = true := by
  unfold Program.inPlace
  rw [clientNils_closure]
  kernel_rfl
theorem clientNils_unfollowed : (Rows.clientNilsRow.unfollowed == Tryz.prog.unfollowed 3) = true := by
  unfold Program.unfollowed
  rw [clientNils_closure]
  kernel_rfl
theorem clientNils_recurses : (Rows.clientNilsRow.recurses == Tryz.prog.recurses 3) = true := by
  unfold Program.recurses Program.unfollowed
  rw [clientNils_closure]
  kernel_rfl
theorem clientNils_named : (Rows.clientNilsRow.named == Tryz.prog.varsNamed 3) = true := by
  unfold Program.varsNamed
  rw [clientNils_closure]
  kernel_rfl
theorem clientNils_facts : joinedFacts Tryz.prog 3 Tryz.f3 Rows.clientNilsSpec Rows.clientNilsRow = true := by
  unfold joinedFacts
  rw [clientNils_laidOut, clientNils_mapsRowed, clientNils_inPlace, clientNils_unfollowed, clientNils_recurses, clientNils_named]
  kernel_rfl
theorem clientNils_goes : Tryz.prog.goes 3 = false := by
  unfold Program.goes Program.unfollowed
  rw [clientNils_closure]
  kernel_rfl
theorem clientNils_funcNamed : Tryz.prog.funcNamed Rows.clientNilsRow.func = some 3 := by kernel_rfl
theorem clientNils_goesBy : false = Rows.clientNilsRow.goesBy Tryz.prog := by
  unfold OpenClaim.goesBy Program.goesAt Program.goesFrom
  rw [clientNils_funcNamed, Option.any_some, clientNils_goes]
  kernel_rfl
theorem clientNils_looks : Tryz.prog.looks [] = true := by kernel_rfl
end Go.Proofs.YtfacpijihpkdcaaGreatDoor
