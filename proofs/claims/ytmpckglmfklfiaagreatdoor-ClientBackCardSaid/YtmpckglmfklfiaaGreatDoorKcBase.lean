/-
  The single steps that the laws of the calls' bytes lean on, and the numbers of their functions.
-/
import Derived.Test.YtmpckglmfklfiaaGreatDoorTie
import Derived.Test.YtmpckglmfklfiaaGreatDoorCards
import Derived.Test.YtmpckglmfklfiaaGreatDoorKcFirst
import Derived.Test.YtmpckglmfklfiaaGreatDoorKcIns
import Derived.Test.YtmpckglmfklfiaaGreatDoorKcSh
import Derived.Test.YtmpckglmfklfiaaGreatDoorCdCode
import Derived.Test.YtmpckglmfklfiaaGreatDoorEvPart3

import Derived.Carry
set_option linter.unusedVariables false
namespace Go.Proofs.YtmpckglmfklfiaaGreatDoor
open Go Go.Ev Go.ChangeShapes Go.WideShapes Go.ChangeAt Go.RowKit
theorem own : ownKnob Tryz.prog.godebug = none := by kernel_rfl
open Go.Proofs Go.Shelf in
theorem sorts (m : Nat) : AnyZI.SortsIn Tryz.prog Tryz.sortedA_ren Fence.wide m :=
  ⟨fun blk off cap ss W hH hblk hsz => callsIn_wide.2 (AnyM.slices_Sort_int Tryz.sortA blk off cap ss W hH hblk hsz),
   fun p cap W => callsIn_wide.2 (AnyM.slices_Sort_int_none Tryz.sortA p cap W)⟩
theorem isPrim_sorted : IsPrim Tryz.prog 162 (pSortedKeys [192] (tag 3 1)) :=
  isPrim_sortedKeys Tryz.sortedA sorts (fun args w => Tryz.call133 args w) (fun g hg => by
    obtain rfl : g = 192 := by simpa using hg
    exact ⟨Tryz.keysA_ren, Tryz.keysA, rfl, fun args w => Tryz.call192 args w⟩)
theorem mixed : Tryz.prog.follows .mixedOrders = true := by kernel_rfl
theorem named : namedB Tryz.prog = true := by kernel_rfl
theorem none_ok : ∀ x ∈ ([] : List (FuncId × Prim)), IsPrim Tryz.prog x.1 x.2 := by intro x hx; cases hx
theorem isPrim_cloneA : IsPrim Tryz.prog 245 pMapsClone := by
  have h := isPrim_clone Tryz.cloneA
  have e : Tryz.cloneA_ren.f 5 = 245 := by kernel_rfl
  rwa [e] at h
theorem isPrim_cloneB : IsPrim Tryz.prog 415 pMapsClone := by
  have h := isPrim_clone Tryz.cloneB
  have e : Tryz.cloneB_ren.f 5 = 415 := by kernel_rfl
  rwa [e] at h
theorem primsA_ok : ∀ x ∈ primsA, IsPrim Tryz.prog x.1 x.2 := by
  intro x hx
  simp only [primsA, List.mem_cons, List.not_mem_nil, or_false] at hx
  rcases hx with rfl | rfl | rfl | rfl | rfl | rfl | rfl | rfl | rfl
  · exact isPrim_sum (envOf_ok none_ok) mixed named (by kernel_rfl)
  · exact isPrim_compare (fn := Tryz.f351) ⟨Tryz.func351, by kernel_rfl, by kernel_rfl, by kernel_rfl, by kernel_rfl⟩
  · exact isPrim_indexByteString (fn := Tryz.f399) ⟨Tryz.func399, by kernel_rfl, by kernel_rfl, by kernel_rfl, by kernel_rfl⟩
  · exact isPrim_ins
  · exact isPrim_sorted
  · exact isPrim_cloneA
  · exact isPrim_cloneB
  · exact isPrim_noneSl (envOf_ok none_ok) mixed named (by kernel_rfl)
  · exact isPrim_nonePtr (envOf_ok none_ok) mixed named (by kernel_rfl)
theorem primsB_ok : ∀ x ∈ primsB, IsPrim Tryz.prog x.1 x.2 := by
  intro x hx
  rcases List.mem_cons.1 hx with rfl | hx
  · exact isPrim_at (envOf_ok none_ok) mixed named disk_run
  · exact primsA_ok x hx
theorem primsC_ok : ∀ x ∈ primsC, IsPrim Tryz.prog x.1 x.2 := by
  intro x hx
  rcases List.mem_cons.1 hx with rfl | hx
  · exact isPrim_at (envOf_ok primsB_ok) mixed named fresh_run
  · exact primsA_ok x hx
theorem globsThere : globsB Tryz.prog = true := by kernel_rfl
def prims : List (FuncId × Prim) := [(9, pTrue)]
theorem prims_ok : ∀ x ∈ prims, IsPrim Tryz.prog x.1 x.2 := by
  intro x hx
  simp only [prims, List.mem_cons, List.not_mem_nil, or_false] at hx
  subst hx
  obtain ⟨n, h⟩ := first_run
  exact isPrim_true (envOf_ok primsC_ok) mixed named h
noncomputable abbrev EE : Env := envOf Tryz.prog prims
theorem has_awake : EE.prim 9 = some pTrue := by kernel_rfl
theorem codes : Codes EE := { tithinglaw26_ClientBack := ⟨by kernel_rfl, by kernel_rfl⟩, tithinglaw26_LongCall := ⟨by kernel_rfl, by kernel_rfl⟩, client_PutCall := ⟨by kernel_rfl, by kernel_rfl⟩, client_GetCall := ⟨by kernel_rfl, by kernel_rfl⟩, tithingref26_SameCalls := ⟨by kernel_rfl, by kernel_rfl⟩, tithinglaw26_longReply := ⟨by kernel_rfl, by kernel_rfl⟩, client_PutReply := ⟨by kernel_rfl, by kernel_rfl⟩, client_GetReply := ⟨by kernel_rfl, by kernel_rfl⟩, tithingref25_Same := ⟨by kernel_rfl, by kernel_rfl⟩, server_PutRights := ⟨by kernel_rfl, by kernel_rfl⟩, slices_ContainsFunc_int_int := ⟨by kernel_rfl, by kernel_rfl⟩, client_PutCall_1 := ⟨by kernel_rfl, by kernel_rfl⟩, client_isNumber := ⟨by kernel_rfl, by kernel_rfl⟩, client_counted := ⟨by kernel_rfl, by kernel_rfl⟩, client_number := ⟨by kernel_rfl, by kernel_rfl⟩, slices_Concat_byte_byte := ⟨by kernel_rfl, by kernel_rfl⟩, client_modeByte := ⟨by kernel_rfl, by kernel_rfl⟩, client_long := ⟨by kernel_rfl, by kernel_rfl⟩, _tithing_client_reader_text := ⟨by kernel_rfl, by kernel_rfl⟩, _tithing_client_reader_number := ⟨by kernel_rfl, by kernel_rfl⟩, _tithing_client_reader_most := ⟨by kernel_rfl, by kernel_rfl⟩, _tithing_client_reader_rights := ⟨by kernel_rfl, by kernel_rfl⟩, _tithing_client_reader_long := ⟨by kernel_rfl, by kernel_rfl⟩, _tithing_client_reader_end := ⟨by kernel_rfl, by kernel_rfl⟩, octet_Put := ⟨by kernel_rfl, by kernel_rfl⟩, _tithing_client_reader_fixed := ⟨by kernel_rfl, by kernel_rfl⟩, tithingref18_SameItems := ⟨by kernel_rfl, by kernel_rfl⟩, slices_Clone_byte_byte := ⟨by kernel_rfl, by kernel_rfl⟩, rights_Valid := ⟨by kernel_rfl, by kernel_rfl⟩, slices_IndexFunc_int_int := ⟨by kernel_rfl, by kernel_rfl⟩, octet_PutText := ⟨by kernel_rfl, by kernel_rfl⟩, slices_Grow_byte_byte := ⟨by kernel_rfl, by kernel_rfl⟩, _tithing_client_reader_fail := ⟨by kernel_rfl, by kernel_rfl⟩, _tithing_client_reader_take := ⟨by kernel_rfl, by kernel_rfl⟩, octet_isWidth := ⟨by kernel_rfl, by kernel_rfl⟩, octet_Get := ⟨by kernel_rfl, by kernel_rfl⟩, rights_within := ⟨by kernel_rfl, by kernel_rfl⟩ }
theorem globals4 : Tryz.prog.globals.size = 4 := by kernel_rfl
end Go.Proofs.YtmpckglmfklfiaaGreatDoor
