/-
  The closed facts of a row, one after another.
-/
import Derived.Test.YtdjpdanpfojghaaGreatDoorRows
import Derived.JoinedOf
import Derived.KernelRfl
import GoSem.ClaimSeven
namespace Go.Proofs.YtdjpdanpfojghaaGreatDoor
open Go
theorem serverNils_laidOut : laidOutB Tryz.prog = true := by kernel_rfl
theorem serverNils_mapsRowed : mapsRowed Tryz.prog = true := by kernel_rfl
theorem serverNils_closure : Tryz.prog.closure 3 = [3, 5, 21, 22, 43, 44, 72, 144, 236, 45, 73, 6, 23, 46, 24, 7, 8, 25, 47, 26, 48, 74, 145, 237, 146, 238, 76, 77, 75, 147, 9, 28, 53, 54, 99, 27, 49, 78, 142, 79, 148, 149, 245, 332, 143, 239, 42, 68, 276, 354, 240, 241, 242, 243, 157, 244, 50, 80, 51, 81, 150, 82, 52, 90, 162, 97, 98, 84, 83, 151, 152, 153, 246, 333, 394, 393, 395, 397, 423, 396, 399, 426, 438, 424, 437, 425, 398, 247, 334, 400, 254, 250, 336, 154, 248, 335, 37, 249, 85, 101, 166, 167, 268, 136, 156, 253, 337, 155, 251, 252, 39, 70, 229, 137, 225, 326, 388, 312, 383, 418, 420, 421, 422, 389, 390, 391, 87, 88, 100, 86, 158, 255, 338, 160, 256, 89, 161, 257, 159, 91, 92, 93, 164, 266, 267, 163, 258, 259, 339, 260, 340, 341, 261, 342, 343, 401, 262, 263, 264, 265, 94, 96, 165, 95, 29, 11, 31, 55, 102, 32, 56, 103, 113, 108, 174, 271, 184, 186, 281, 293, 279, 294, 369, 19, 38, 69, 180, 191, 287, 107, 177, 274, 353, 275, 176, 134, 222, 224, 223, 325, 273, 352, 179, 277, 355, 178, 104, 168, 169, 269, 344, 345, 402, 346, 347, 403, 404, 427, 348, 349, 350, 351, 170, 171, 270, 105, 172, 106, 173, 17, 175, 272, 196, 295, 296, 370, 371, 409, 372, 185, 280, 358, 359, 405, 406, 428, 439, 360, 361, 407, 429, 430, 440, 445, 181, 278, 356, 357, 141, 232, 330, 363, 233, 234, 235, 331, 60, 130, 220, 131, 221, 316, 322, 317, 385, 318, 319, 386, 387, 419, 320, 321, 323, 324, 228, 231, 329, 109, 182, 183, 227, 327, 392, 57, 110, 114, 187, 282, 188, 111, 189, 283, 284, 297, 112, 190, 285, 286, 115, 116, 117, 192, 193, 288, 128, 215, 311, 214, 310, 382, 216, 290, 289, 362, 194, 291, 365, 364, 408, 366, 195, 292, 367, 368, 118, 197, 198, 119, 121, 199, 120, 200, 201, 122, 202, 203, 299, 298, 373, 300, 301, 374, 313, 384, 410, 431, 375, 411, 376, 412, 432, 441, 442, 446, 447, 443, 444, 448, 449, 450, 451, 204, 58, 123, 205, 302, 124, 206, 303, 304, 377, 413, 125, 207, 208, 126, 209, 210, 305, 379, 378, 211, 306, 127, 212, 307, 308, 380, 414, 415, 433, 417, 435, 434, 416, 436, 381, 213, 309, 59, 129, 217, 218, 314, 219, 315, 10, 30, 12, 33, 61, 132, 13, 34, 62, 133, 14, 15, 16, 35, 36, 63, 135, 65, 64, 138, 139, 226, 140, 230, 328, 66, 67] := by kernel_rfl
theorem serverNils_inPlace : (Rows.serverNilsRow.inPlace == Tryz.prog.inPlace 3) = true := by
  unfold Program.inPlace
  rw [serverNils_closure]
  kernel_rfl
theorem serverNils_unfollowed : (Rows.serverNilsRow.unfollowed == Tryz.prog.unfollowed 3) = true := by
  unfold Program.unfollowed
  rw [serverNils_closure]
  kernel_rfl
theorem serverNils_recurses : (Rows.serverNilsRow.recurses == Tryz.prog.recurses 3) = true := by
  unfold Program.recurses Program.unfollowed
  rw [serverNils_closure]
  kernel_rfl
theorem serverNils_named : (Rows.serverNilsRow.named == Tryz.prog.varsNamed 3) = true := by
  unfold Program.varsNamed
  rw [serverNils_closure]
  kernel_rfl
theorem serverNils_facts : joinedFacts Tryz.prog 3 Tryz.f3 Rows.serverNilsSpec Rows.serverNilsRow = true := by
  unfold joinedFacts
  rw [serverNils_laidOut, serverNils_mapsRowed, serverNils_inPlace, serverNils_unfollowed, serverNils_recurses, serverNils_named]
  kernel_rfl
theorem serverNils_goes : Tryz.prog.goes 3 = false := by
  unfold Program.goes Program.unfollowed
  rw [serverNils_closure]
  kernel_rfl
theorem serverNils_funcNamed : Tryz.prog.funcNamed Rows.serverNilsRow.func = some 3 := by kernel_rfl
theorem serverNils_goesBy : false = Rows.serverNilsRow.goesBy Tryz.prog := by
  unfold OpenClaim.goesBy Program.goesAt Program.goesFrom
  rw [serverNils_funcNamed, Option.any_some, serverNils_goes]
  kernel_rfl
theorem serverNils_looks : Tryz.prog.looks [] = true := by kernel_rfl
end Go.Proofs.YtdjpdanpfojghaaGreatDoor
