/-
  Of a nil volume, and of a zero one, ErrNil is told, and nothing else: for every numbers and every text.
-/
import Derived.Test.YtekhlocklblbiaaGreatRows
import Derived.Test.YtekhlocklblbiaaGreatVnRun
import Derived.Test.YtekhlocklblbiaaGreatVnIns
import Derived.Test.YtekhlocklblbiaaGreatVnSh
import Derived.Test.YtekhlocklblbiaaGreatEvPart3
set_option linter.unusedVariables false
namespace Go.Proofs.YtekhlocklblbiaaGreat
open Go Go.Ev Go.ChangeShapes Go.WideShapes Go.ChangeAt Go.RowKit
open Go.ChangeMaps (open_string shut_string)

theorem own : ownKnob Tryz.prog.godebug = none := by kernel_rfl
open Go.Proofs Go.Shelf in
theorem sorts (m : Nat) : AnyZI.SortsIn Tryz.prog Tryz.sortedA_ren Fence.wide m :=
  ⟨fun blk off cap ss W hH hblk hsz => callsIn_wide.2 (AnyM.slices_Sort_int Tryz.sortA blk off cap ss W hH hblk hsz),
   fun p cap W => callsIn_wide.2 (AnyM.slices_Sort_int_none Tryz.sortA p cap W)⟩
theorem isPrim_sorted : IsPrim Tryz.prog 110 (pSortedKeys [152] (tag 3 1)) :=
  isPrim_sortedKeys Tryz.sortedA sorts (fun args w => Tryz.call151 args w) (fun g hg => by
    obtain rfl : g = 152 := by simpa using hg
    exact ⟨Tryz.keysA_ren, Tryz.keysA, rfl, fun args w => Tryz.call152 args w⟩)
theorem mixed : Tryz.prog.follows .mixedOrders = true := by kernel_rfl
theorem named : namedB Tryz.prog = true := by kernel_rfl
theorem primsA_ok : ∀ x ∈ primsA, IsPrim Tryz.prog x.1 x.2 := by intro x hx; cases hx
theorem prims0_ok : ∀ x ∈ prims0, IsPrim Tryz.prog x.1 x.2 := by
  intro x hx
  simp only [prims0, List.mem_cons, List.not_mem_nil, or_false] at hx
  rcases hx with rfl | rfl | rfl | rfl | rfl
  · exact isPrim_sum (envOf_ok primsA_ok) mixed named (by kernel_rfl)
  · exact isPrim_compare (fn := Tryz.f169) ⟨Tryz.func169, by kernel_rfl, by kernel_rfl, by kernel_rfl, by kernel_rfl⟩
  · exact isPrim_indexByteString (fn := Tryz.f240) ⟨Tryz.func240, by kernel_rfl, by kernel_rfl, by kernel_rfl, by kernel_rfl⟩
  · exact isPrim_ins
  · exact isPrim_sorted
theorem globsThere : globsB Tryz.prog = true := by kernel_rfl
theorem prims_ok : ∀ x ∈ prims, IsPrim Tryz.prog x.1 x.2 := by
  intro x hx
  simp only [prims, List.mem_cons, List.not_mem_nil, or_false] at hx
  subst hx
  exact isPrim_true (envOf_ok prims0_ok) mixed named first_run

/-- The call. -/
theorem volumeNils_calls {W : World} (hW : W.ShapedOpen Tryz.prog) (m n : Int) (s : ByteArray) : Calls Tryz.prog 3 #[.int .i64 m, .int .i64 n, .string s] W fun e w' => e = .returned (.bool true) ∧ Below W.heap.size W w' :=
  calls_true (envOf_ok prims_ok) mixed named (glob_globs Tryz.prog) (bare_rel (globs_size globsThere hW)) (.cons (.int .i64 m) (.cons (.int .i64 n) (.cons (.string s) .nil))) (volumeNils_run m n s)

set_option maxRecDepth 100000 in
theorem volumeNils_lifted (os : Os) (started : os.Started) (H : Type) (enc : TypeId × Value → H) :
    ReturnsInHanded {} Tryz.checked os 3 .any (fun w args => Rows.volumeNilsSpec.pre enc Tryz.prog Tryz.f3 Rows.volumeNilsRow.domain false w args ∧ sizedMet enc Tryz.prog Tryz.f3 (OpenSpec.ofChange Rows.volumeNilsSpec) false w args)
      (Rows.volumeNilsSpec.post enc Tryz.prog Tryz.f3 false true false false) := by
  refine returnsInHanded_bare (C := Tryz.checked) own started (by kernel_rfl) Tryz.func3
    (ChangeSpec.witness_shaped (enc := enc) (C := Tryz.checked) (os := os) (X := fun _ _ => True) false (World.laidAll Tryz.prog os []) #[.int .i64 0, .int .i64 0, .string ByteArray.empty] 1 (World.laidAll_os _ _ _)
      (World.shaped_of_ZipB (by kernel_rfl) (by kernel_rfl)) (by kernel_rfl) (by kernel_rfl) (by kernel_rfl) trivial) ?_
  intro W base args ds gs before hshape hval0 hW _ _
  have hval : ∀ (j : Nat) t v, Tryz.f3.params[j]? = some t → args[j]? = some v → Value.okWide Tryz.prog W .any base t v := hval0
  have hW' := hW
  obtain ⟨p, q, hA0, hV, rfl, hfz, hnd⟩ := hW
  have hA : DataW.TrodAll enc Tryz.prog W 0 (fun _ => true) true Tryz.f3.params.toList args.toList ds p := hA0
  rw [Tryz.params3] at hA hval
  obtain ⟨v0, v1, v2, d0, d1, d2, p0, p1, p2, rfl, rfl, rfl, h0, h1, h2⟩ := trodAll_three hA
  obtain ⟨rfl, rfl⟩ := trodVars_none hV
  obtain ⟨a0, rfl, rfl, rfl, w0⟩ := open_int Tryz.underlying3 (hval 0 3 v0 rfl rfl) h0
  obtain ⟨a1, rfl, rfl, rfl, w1⟩ := open_int Tryz.underlying3 (hval 1 3 v1 rfl rfl) h1
  obtain ⟨a2, rfl, rfl, rfl, y2⟩ := open_string Tryz.underlying9 (hval 2 9 v2 rfl rfl) h2
  clear hA0 hval0
  refine (volumeNils_calls hshape a0 a1 a2).mono fun e W' ⟨he, bel⟩ => ?_
  subst he
  exact ⟨_, rfl, _, _, _, [], _, [], hW', trodAll_mk1 (shut_bool Tryz.underlying4 _), trodAll_mk3 (shut_int Tryz.underlying3 w0) (shut_int Tryz.underlying3 w1) (shut_string Tryz.underlying9 y2), rfl, bel.frame _, fun h => by cases h⟩

theorem volumeNils_holds : Rows.VolumeNilsSaid :=
  OpenClaim.holds_of_wide 3 Tryz.f3 rfl rfl rfl rfl rfl rfl rfl ⟨rfl, rfl, rfl, rfl, rfl⟩ rfl rfl rfl rfl rfl (by kernel_rfl) Tryz.func3 (by kernel_rfl)
    (of_decide_eq_true (by kernel_rfl)) (by unfold Func.isWrapper; first | (rw [if_pos (by decide +kernel)]; kernel_rfl) | (rw [if_neg (by decide +kernel)]; exact ⟨rfl, rfl⟩))
    (fun os started H enc _ => volumeNils_lifted os started H enc)

#print axioms volumeNils_holds
end Go.Proofs.YtekhlocklblbiaaGreat
