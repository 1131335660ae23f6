/-
  Of a nil catalogue, and of a zero one, ErrNil is told, and nothing else; a nil tree is refused: for every numbers and every text. The card is tied.
-/
import Derived.Test.YticaodbgdjjgdaaGreatDoorTie
import Derived.Test.YticaodbgdjjgdaaGreatDoorCards
import Derived.Test.YticaodbgdjjgdaaGreatDoorCnRun
import Derived.Test.YticaodbgdjjgdaaGreatDoorCnIns
import Derived.Test.YticaodbgdjjgdaaGreatDoorEvShaped
set_option linter.unusedVariables false
namespace Go.Proofs.YticaodbgdjjgdaaGreatDoor
open Go Go.Ev Go.ChangeShapes Go.WideShapes Go.ChangeAt Go.RowKit
open Go.ChangeMaps (open_string shut_string)

theorem own : ownKnob Tryz.prog.godebug = none := by kernel_rfl
theorem prims0_ok : ∀ x ∈ prims0, IsPrim Tryz.prog x.1 x.2 := by
  intro x hx
  simp only [prims0, List.mem_cons, List.not_mem_nil, or_false] at hx
  rcases hx with rfl | rfl | rfl
  · exact isPrim_compare (fn := Tryz.f87) ⟨Tryz.func87, by kernel_rfl, by kernel_rfl, by kernel_rfl, by kernel_rfl⟩
  · exact isPrim_indexByteString (fn := Tryz.f145) ⟨Tryz.func145, by kernel_rfl, by kernel_rfl, by kernel_rfl, by kernel_rfl⟩
  · exact isPrim_ins
theorem named : namedB Tryz.prog = true := by kernel_rfl
theorem globsThere : globsB Tryz.prog = true := by kernel_rfl
theorem mixed : Tryz.prog.follows .mixedOrders = true := by kernel_rfl

theorem prims_ok : ∀ x ∈ prims, IsPrim Tryz.prog x.1 x.2 := by
  intro x hx
  simp only [prims, List.mem_cons, List.not_mem_nil, or_false] at hx
  subst hx
  exact isPrim_true (envOf_ok prims0_ok) mixed named awake_run

/-- The call. -/
theorem catalogNils_calls {W : World} (hW : W.ShapedOpen Tryz.prog) (m n : Int) (s : ByteArray) : Calls Tryz.prog 3 #[.int .i64 m, .int .i64 n, .string s] W fun e w' => e = .returned (.bool true) ∧ Below W.heap.size W w' :=
  calls_true (envOf_ok prims_ok) mixed named (glob_globs Tryz.prog) (bare_rel (globs_size globsThere hW)) (.cons (.int .i64 m) (.cons (.int .i64 n) (.cons (.string s) .nil))) (catalogNils_run m n s)

abbrev laidList := Rows.catalogNilsRow.laid
set_option maxRecDepth 100000 in
theorem catalogNils_lifted (os : Os) (started : os.Started) (H : Type) (enc : TypeId × Value → H) :
    ReturnsInHanded {} Tryz.checked os 3 .any (fun w args => (Rows.catalogNilsSpec.pre enc Tryz.prog Tryz.f3 Rows.catalogNilsRow.domain false w args ∧ laidMetH Tryz.prog laidList w) ∧ sizedMet enc Tryz.prog Tryz.f3 (OpenSpec.ofChange Rows.catalogNilsSpec) false w args)
      (Rows.catalogNilsSpec.post enc Tryz.prog Tryz.f3 false true false false) := by
  refine returnsInHanded_shaped (C := Tryz.checked) (X := fun w _ => laidMetH Tryz.prog laidList w) (fun _ _ _ hh h => h.of_heap hh) own started (by kernel_rfl) Tryz.func3
    (ChangeSpec.witness_shaped (enc := enc) (C := Tryz.checked) (os := os) (X := fun w _ => laidMetH Tryz.prog laidList w) false (World.laidAll Tryz.prog os laidList) #[.int .i64 0, .int .i64 0, .string ByteArray.empty] 3 (World.laidAll_os _ _ _)
      (World.shaped_of_ZipB (by kernel_rfl) (by kernel_rfl)) (by kernel_rfl) (by kernel_rfl) (by kernel_rfl)
      (by rw [MakeChecks.laidMetH_plain _ _ _ (by kernel_rfl)]; exact laidMet_laidAll _ (by kernel_rfl) (by kernel_rfl))) ?_
  intro W base args ds gs before hshape hval0 hW _ _ _
  have hval : ∀ (j : Nat) t v, Tryz.f3.params[j]? = some t → args[j]? = some v → Value.okWide Tryz.prog W .any base t v := hval0
  have hW' := hW
  obtain ⟨p, q, hA0, hV, rfl, hfz, hnd⟩ := hW
  have hA : DataW.TrodAll enc Tryz.prog W 0 (fun _ => true) true Tryz.f3.params.toList args.toList ds p := hA0
  rw [Tryz.params3] at hA hval
  obtain ⟨v0, v1, v2, d0, d1, d2, p0, p1, p2, rfl, rfl, rfl, h0, h1, h2⟩ := trodAll_three hA
  obtain ⟨rfl, rfl⟩ := trodVars_none hV
  obtain ⟨a0, rfl, rfl, rfl, w0⟩ := open_int Tryz.underlying3 (hval 0 3 v0 rfl rfl) h0
  obtain ⟨a1, rfl, rfl, rfl, w1⟩ := open_int Tryz.underlying3 (hval 1 3 v1 rfl rfl) h1
  obtain ⟨a2, rfl, rfl, rfl, y2⟩ := open_string Tryz.underlying9 (hval 2 9 v2 rfl rfl) h2
  clear hA0 hval0
  refine (catalogNils_calls hshape a0 a1 a2).mono fun e W' ⟨he, bel⟩ => ?_
  subst he
  exact ⟨_, rfl, _, _, _, [], _, [], hW', trodAll_mk1 (shut_bool Tryz.underlying4 _), trodAll_mk3 (shut_int Tryz.underlying3 w0) (shut_int Tryz.underlying3 w1) (shut_string Tryz.underlying9 y2), rfl, bel.frame _, fun h => by cases h⟩

theorem catalogNils_holds : Rows.CatalogNilsSaid :=
  OpenClaim.holds_of_wide 3 Tryz.f3 rfl rfl rfl rfl rfl rfl rfl ⟨rfl, rfl, rfl, rfl, rfl⟩ rfl rfl rfl rfl rfl (by kernel_rfl) Tryz.func3 (by kernel_rfl)
    (of_decide_eq_true (by kernel_rfl)) (by unfold Func.isWrapper; first | (rw [if_pos (by decide +kernel)]; kernel_rfl) | (rw [if_neg (by decide +kernel)]; exact ⟨rfl, rfl⟩))
    (fun os started H enc _ => catalogNils_lifted os started H enc)

/-- The card. -/
theorem catalogNils_card : Rows.CatalogNilsCardSaid :=
  Claim7.holds_tied_plain_at .later [] [.data, .pinned] true (true, "760d2644e864726db4ed6a6dac20a1160899e7b30b8cd63bec3405d97c6e89cb") true
    catalogNils_holds (fun _ h => by cases h) (by kernel_rfl) (fun _ h => by cases h) catalogNils_row_tie rfl ⟨rfl, rfl⟩ (by kernel_rfl) rfl
    (fun f fn hf hfn => by
      obtain rfl : f = 3 := Option.some.inj ((show Tryz.prog.funcNamed "tithing/tithinglaw18.CatalogNils" = some 3 by kernel_rfl).symm.trans hf) |>.symm
      obtain rfl : fn = Tryz.f3 := (Option.some.inj (Tryz.func3.symm.trans hfn)).symm
      exact ⟨by kernel_rfl, fun j t ht => by
        rw [Tryz.params3] at ht
        have hm : t ∈ [3, 3, 9] := by simpa using Array.mem_of_getElem? ht
        have hall : ([3, 3, 9].all fun u => !Tryz.prog.wantsStandIn u) = true := by kernel_rfl
        exact (show Tryz.prog.wantsStandIn t = false by simpa using List.all_eq_true.1 hall t hm)⟩)
    (by kernel_rfl)
#print axioms catalogNils_card
end Go.Proofs.YticaodbgdjjgdaaGreatDoor
