/-
  Which reply bytes are, or with which error they are none: for all bytes. The card is tied.
-/
import Derived.Test.YtmpckglmfklfiaaGreatDoorKcBase
import Derived.Test.YtmpckglmfklfiaaGreatDoorKfF6
import Derived.Test.YtmpckglmfklfiaaGreatDoorCdReplyGets
set_option linter.unusedVariables false
namespace Go.Proofs.YtmpckglmfklfiaaGreatDoor
open Go Go.Ev Go.ChangeShapes Go.WideShapes Go.ChangeAt Go.RowKit

theorem clientReplyGets_calls {W : World} (hW : W.ShapedOpen Tryz.prog) {v : Value} {l : List UInt8} (ho : Opens W 4 v fun s x => Sl s s.next 1 x (l.map ofByte)) :
    Calls Tryz.prog 6 #[v] W fun e w' => e = .returned (.bool true) ∧ Below W.heap.size W w' := by
  have hsz : 4 ≤ W.heap.size := globals4 ▸ globs_size globsThere hW
  obtain ⟨Z, x, hL, hV, -, hS⟩ := ho [] Lay.nil
  rw [List.nil_append] at hL hV hS
  obtain ⟨k, hk⟩ := (ClientReplyGets_run codes codes.tithinglaw26_ClientReplyGets has_awake hS).says
  exact calls_true (envOf_ok prims_ok) mixed named (rows_globs globals4 Z) (hL.rel hsz) (.cons hV .nil) hk

abbrev laidList := Rows.clientReplyGetsRow.laid
set_option maxRecDepth 100000 in
theorem clientReplyGets_lifted (os : Os) (started : os.Started) (H : Type) (enc : TypeId × Value → H) :
    ReturnsInHanded {} Tryz.checked os 6 .any (fun w args => (Rows.clientReplyGetsSpec.pre enc Tryz.prog Tryz.f6 Rows.clientReplyGetsRow.domain false w args ∧ laidMetH Tryz.prog laidList w) ∧ sizedMet enc Tryz.prog Tryz.f6 (OpenSpec.ofChange Rows.clientReplyGetsSpec) false w args)
      (Rows.clientReplyGetsSpec.post enc Tryz.prog Tryz.f6 false true false false) := by
  refine returnsInHanded_shaped (C := Tryz.checked) (X := fun w _ => laidMetH Tryz.prog laidList w) (fun _ _ _ hh h => h.of_heap hh) own started (by kernel_rfl) Tryz.func6
    (ChangeSpec.witness_shaped (enc := enc) (C := Tryz.checked) (os := os) (X := fun w _ => laidMetH Tryz.prog laidList w) false (World.laidAll Tryz.prog os laidList) #[.slice none 0 0] 4 (World.laidAll_os _ _ _)
      (World.shaped_of_ZipB (by kernel_rfl) (by kernel_rfl)) (by kernel_rfl) (by kernel_rfl) (by kernel_rfl)
      (by rw [MakeChecks.laidMetH_plain _ _ _ (by kernel_rfl)]; exact laidMet_laidAll _ (by kernel_rfl) (by kernel_rfl))) ?_
  intro W base args ds gs before hshape hval0 hW _ hz _
  have hval : ∀ (j : Nat) t v, Tryz.f6.params[j]? = some t → args[j]? = some v → Value.okWide Tryz.prog W .any base t v := hval0
  have hW' := hW
  obtain ⟨p, q, hA0, hV, rfl, hfz, hnd⟩ := hW
  have hA : DataW.TrodAll enc Tryz.prog W 0 (fun _ => true) true Tryz.f6.params.toList args.toList ds p := hA0
  have hlt := hA.lt
  rw [Tryz.params6] at hA hval hz
  obtain ⟨v0, d0, rfl, rfl, h0⟩ := trodAll_one hA
  obtain ⟨rfl, rfl⟩ := trodVars_none hV
  have hb := hval 0 26 v0 rfl rfl
  clear hA0 hval0
  have hb : Cell.okWide Tryz.prog W .any base 26 v0 := by
    simp only [Value.okWide, Tryz.underlying26] at hb
    exact hb
  have hcells : v0.cells.toList = [v0] := by rcases okCell_slice2 Tryz.underlying26 hb with rfl | ⟨_, _, _, rfl, _⟩ <;> rfl
  have h0' := h0
  obtain ⟨fuel, hf⟩ := h0
  rw [hcells] at hf
  have hw := (weights_head hz).1
  obtain ⟨l, -, ho⟩ := bytes_arg (n := 4) Tryz.underlying26 Tryz.underlying5 (by kernel_rfl) (by kernel_rfl) hb hf hw
  refine (clientReplyGets_calls hshape ho).mono fun e W' ⟨he, bel⟩ => ?_
  subst he
  exact ⟨_, rfl, _, _, _, [], _, [], hW', trodAll_mk1 (shut_bool Tryz.underlying4 _), trodAll_mk1 (Below.trod clientReplyGets_laidOut (by kernel_rfl) (of_decide_eq_true (by kernel_rfl)) h0' bel (fun x hx => hlt x (by simp [hx]))), rfl, bel.frame _, fun h => by cases h⟩

theorem clientReplyGets_holds : Rows.ClientReplyGetsSaid :=
  OpenClaim.holds_of_wide 6 Tryz.f6 rfl rfl rfl rfl rfl rfl rfl ⟨rfl, rfl, rfl, rfl, rfl⟩ rfl rfl rfl rfl rfl (by kernel_rfl) Tryz.func6 clientReplyGets_facts
    (of_decide_eq_true (by kernel_rfl)) (by unfold Func.isWrapper; first | (rw [if_pos (by decide +kernel)]; kernel_rfl) | (rw [if_neg (by decide +kernel)]; exact ⟨rfl, rfl⟩))
    (fun os started H enc _ => clientReplyGets_lifted os started H enc)

/-- The card. -/
theorem clientReplyGets_card : Rows.ClientReplyGetsCardSaid :=
  Claim7.holds_tied_plain_at .later [] [.data, .data, .data] true (true, "d276ca00ff0f827a229ecee0338b3a9555edcac4ae4a6c797282561b70bf7238") true
    clientReplyGets_holds (fun _ h => by cases h) (by kernel_rfl) (fun _ h => by cases h) clientReplyGets_row_tie rfl ⟨rfl, rfl⟩ (by kernel_rfl) rfl
    (fun f fn hf hfn => by
      obtain rfl : f = 6 := Option.some.inj ((show Tryz.prog.funcNamed "tithing/tithinglaw26.ClientReplyGets" = some 6 by kernel_rfl).symm.trans hf) |>.symm
      obtain rfl : fn = Tryz.f6 := (Option.some.inj (Tryz.func6.symm.trans hfn)).symm
      exact ⟨clientReplyGets_looks.symm, fun j t ht => by
        rw [Tryz.params6] at ht
        have hm : t ∈ [26] := by simpa using Array.mem_of_getElem? ht
        have hall : ([26].all fun u => !Tryz.prog.wantsStandIn u) = true := by kernel_rfl
        exact (show Tryz.prog.wantsStandIn t = false by simpa using List.all_eq_true.1 hall t hm)⟩)
    clientReplyGets_goesBy
#print axioms clientReplyGets_card
end Go.Proofs.YtmpckglmfklfiaaGreatDoor
