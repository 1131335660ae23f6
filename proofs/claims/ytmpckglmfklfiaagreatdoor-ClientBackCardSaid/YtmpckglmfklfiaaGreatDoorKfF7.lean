/-
  The closed facts of a row, one after another.
-/
import Derived.Test.YtmpckglmfklfiaaGreatDoorRows
import Derived.JoinedOf
import Derived.KernelRfl
import GoSem.ClaimSeven
namespace Go.Proofs.YtmpckglmfklfiaaGreatDoor
open Go
theorem clientBack_laidOut : laidOutB Tryz.prog = true := by kernel_rfl
theorem clientBack_mapsRowed : mapsRowed Tryz.prog = true := by kernel_rfl
theorem clientBack_closure : Tryz.prog.closure 7 = [7, 8, 15, 9, 21, 57, 58, 90, 117, 144, 115, 146, 147, 174, 211, 145, 173, 118, 62, 92, 127, 76, 91, 119, 120, 148, 175, 212, 275, 349, 399, 276, 277, 278, 213, 214, 215, 121, 149, 176, 186, 235, 290, 216, 89, 88, 137, 168, 217, 218, 219, 221, 220, 222, 123, 122, 150, 177, 223, 53, 178, 124, 151, 179, 180, 224, 152, 153, 181, 225, 184, 226, 32, 81, 182, 227, 232, 228, 279, 286, 351, 229, 281, 155, 280, 234, 230, 231, 282, 283, 350, 284, 183, 233, 285, 287, 352, 353, 400, 438, 288, 289, 354, 401, 402, 439, 452, 125, 154, 185, 156, 187, 157, 188, 126, 158, 189, 236, 291, 159, 190, 160, 161, 163, 192, 162, 191, 237, 133, 167, 203, 204, 166, 194, 200, 244, 195, 239, 196, 240, 241, 197, 242, 243, 292, 198, 199, 201, 202, 93, 94, 128, 95, 59, 96, 129, 164, 97, 130, 165, 193, 238, 131, 98, 22, 60, 99, 27, 79, 61, 63, 100, 64, 23, 65, 10, 26, 78, 28, 29, 30, 80, 31, 33, 34, 66, 101, 67, 102, 132, 105, 71, 24, 69, 68, 103, 70, 104, 72, 73, 106, 107, 108, 74, 109, 75, 110, 134, 135, 111, 136, 18, 55, 85, 41, 44, 84, 42, 40, 45, 112, 138, 139, 113, 114, 140, 169, 12, 43, 141, 170, 142, 171, 205, 206, 245, 293, 172, 207, 246, 253, 257, 251, 300, 357, 310, 365, 358, 306, 315, 371, 250, 303, 361, 412, 362, 302, 360, 411, 305, 363, 413, 304, 247, 294, 295, 355, 403, 404, 440, 405, 406, 441, 442, 453, 407, 408, 409, 410, 296, 297, 356, 248, 298, 249, 299, 301, 359, 307, 364, 414, 415, 252, 308, 309, 208, 254, 258, 311, 366, 312, 255, 313, 367, 368, 377, 256, 314, 369, 370, 259, 260, 261, 316, 317, 372, 273, 344, 395, 343, 394, 436, 345, 326, 374, 373, 416, 318, 375, 417, 418, 419, 319, 376, 420, 421, 262, 320, 321, 263, 265, 322, 264, 323, 324, 266, 325, 327, 379, 378, 422, 380, 381, 423, 396, 437, 443, 454, 424, 444, 425, 445, 455, 460, 461, 464, 465, 462, 463, 466, 467, 468, 469, 328, 209, 267, 329, 331, 332, 385, 333, 386, 335, 383, 382, 426, 268, 330, 384, 269, 334, 387, 388, 427, 446, 270, 336, 337, 271, 338, 339, 389, 429, 428, 340, 390, 430, 431, 447, 272, 341, 391, 392, 432, 433, 434, 448, 449, 456, 451, 458, 457, 450, 459, 435, 342, 393, 210, 274, 346, 347, 397, 348, 398, 16, 143, 25, 77, 14, 20, 56] := by kernel_rfl
theorem clientBack_inPlace : (Rows.clientBackRow.inPlace == Tryz.prog.inPlace 7) = true := by
  unfold Program.inPlace
  rw [clientBack_closure]
  kernel_rfl
theorem clientBack_unfollowed : (Rows.clientBackRow.unfollowed == Tryz.prog.unfollowed 7) = true := by
  unfold Program.unfollowed
  rw [clientBack_closure]
  kernel_rfl
theorem clientBack_recurses : (Rows.clientBackRow.recurses == Tryz.prog.recurses 7) = true := by
  unfold Program.recurses Program.unfollowed
  rw [clientBack_closure]
  kernel_rfl
theorem clientBack_named : (Rows.clientBackRow.named == Tryz.prog.varsNamed 7) = true := by
  unfold Program.varsNamed
  rw [clientBack_closure]
  kernel_rfl
theorem clientBack_facts : joinedFacts Tryz.prog 7 Tryz.f7 Rows.clientBackSpec Rows.clientBackRow = true := by
  unfold joinedFacts
  rw [clientBack_laidOut, clientBack_mapsRowed, clientBack_inPlace, clientBack_unfollowed, clientBack_recurses, clientBack_named]
  kernel_rfl
theorem clientBack_goes : Tryz.prog.goes 7 = false := by
  unfold Program.goes Program.unfollowed
  rw [clientBack_closure]
  kernel_rfl
theorem clientBack_funcNamed : Tryz.prog.funcNamed Rows.clientBackRow.func = some 7 := by kernel_rfl
theorem clientBack_goesBy : false = Rows.clientBackRow.goesBy Tryz.prog := by
  unfold OpenClaim.goesBy Program.goesAt Program.goesFrom
  rw [clientBack_funcNamed, Option.any_some, clientBack_goes]
  kernel_rfl
theorem clientBack_looks : Tryz.prog.looks [] = true := by kernel_rfl
end Go.Proofs.YtmpckglmfklfiaaGreatDoor
