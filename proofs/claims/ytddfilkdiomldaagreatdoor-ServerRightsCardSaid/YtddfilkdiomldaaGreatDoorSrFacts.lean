/-
  The closed facts of a row, one after another.
-/
import Derived.Test.YtddfilkdiomldaaGreatDoorRows
import Derived.JoinedOf
import Derived.KernelRfl
import GoSem.ClaimSeven
namespace Go.Proofs.YtddfilkdiomldaaGreatDoor
open Go
theorem serverRights_laidOut : laidOutB Tryz.prog = true := by kernel_rfl
theorem serverRights_mapsRowed : mapsRowed Tryz.prog = true := by kernel_rfl
theorem serverRights_closure : Tryz.prog.closure 3 = [3, 4, 9, 19, 10, 20, 11, 21, 5, 12, 22, 13, 6, 14, 7, 8, 15, 16, 23, 33, 53, 55, 56, 105, 180, 54, 104, 34, 35, 25, 44, 45, 24, 36, 37, 57, 106, 181, 251, 318, 343, 255, 256, 257, 182, 183, 184, 38, 58, 107, 117, 204, 269, 185, 216, 292, 186, 187, 188, 190, 189, 191, 40, 39, 59, 108, 192, 109, 41, 60, 110, 111, 193, 61, 62, 112, 194, 115, 195, 113, 196, 201, 197, 258, 265, 321, 198, 260, 64, 259, 203, 199, 200, 261, 262, 320, 263, 114, 202, 264, 266, 322, 323, 344, 355, 267, 268, 324, 345, 346, 356, 361, 42, 63, 116, 65, 118, 66, 119, 43, 67, 120, 205, 270, 68, 73, 69, 70, 72, 123, 71, 121, 206, 122, 208, 280, 281, 207, 271, 277, 232, 272, 325, 273, 326, 327, 274, 328, 329, 347, 275, 276, 278, 279, 26, 27, 46, 28, 17, 29, 30, 18, 31, 47, 48, 74, 124, 32, 49, 75, 82, 86, 80, 131, 211, 141, 219, 137, 146, 225, 79, 134, 214, 291, 215, 133, 213, 290, 136, 217, 293, 135, 76, 125, 126, 209, 282, 283, 330, 284, 285, 331, 332, 348, 286, 287, 288, 289, 127, 128, 210, 77, 129, 78, 130, 132, 212, 138, 218, 294, 295, 81, 139, 140, 50, 83, 87, 142, 220, 143, 84, 144, 221, 222, 231, 85, 145, 223, 224, 88, 89, 90, 147, 148, 226, 102, 175, 250, 174, 249, 317, 176, 157, 228, 227, 296, 149, 229, 298, 299, 297, 333, 300, 150, 230, 301, 302, 91, 151, 152, 92, 94, 153, 93, 154, 155, 95, 156, 158, 234, 233, 303, 235, 236, 304, 252, 319, 334, 349, 305, 335, 306, 336, 350, 357, 358, 362, 363, 359, 360, 364, 365, 366, 367, 159, 51, 96, 160, 162, 163, 240, 164, 241, 166, 238, 237, 307, 97, 161, 239, 98, 165, 242, 243, 308, 337, 99, 167, 168, 100, 169, 170, 244, 310, 309, 171, 245, 311, 312, 338, 101, 172, 246, 247, 313, 314, 315, 339, 340, 351, 342, 353, 352, 341, 354, 316, 173, 248, 52, 103, 177, 178, 253, 179, 254] := by kernel_rfl
theorem serverRights_inPlace : (Rows.serverRightsRow.inPlace == Tryz.prog.inPlace 3) = true := by
  unfold Program.inPlace
  rw [serverRights_closure]
  kernel_rfl
theorem serverRights_unfollowed : (Rows.serverRightsRow.unfollowed == Tryz.prog.unfollowed 3) = true := by
  unfold Program.unfollowed
  rw [serverRights_closure]
  kernel_rfl
theorem serverRights_recurses : (Rows.serverRightsRow.recurses == Tryz.prog.recurses 3) = true := by
  unfold Program.recurses Program.unfollowed
  rw [serverRights_closure]
  kernel_rfl
theorem serverRights_named : (Rows.serverRightsRow.named == Tryz.prog.varsNamed 3) = true := by
  unfold Program.varsNamed
  rw [serverRights_closure]
  kernel_rfl
theorem serverRights_facts : joinedFacts Tryz.prog 3 Tryz.f3 Rows.serverRightsSpec Rows.serverRightsRow = true := by
  unfold joinedFacts
  rw [serverRights_laidOut, serverRights_mapsRowed, serverRights_inPlace, serverRights_unfollowed, serverRights_recurses, serverRights_named]
  kernel_rfl
theorem serverRights_goes : Tryz.prog.goes 3 = false := by
  unfold Program.goes Program.unfollowed
  rw [serverRights_closure]
  kernel_rfl
theorem serverRights_funcNamed : Tryz.prog.funcNamed Rows.serverRightsRow.func = some 3 := by kernel_rfl
theorem serverRights_goesBy : false = Rows.serverRightsRow.goesBy Tryz.prog := by
  unfold OpenClaim.goesBy Program.goesAt Program.goesFrom
  rw [serverRights_funcNamed, Option.any_some, serverRights_goes]
  kernel_rfl
theorem serverRights_looks : Tryz.prog.looks [] = true := by kernel_rfl
end Go.Proofs.YtddfilkdiomldaaGreatDoor
