/-
  The bytes of a reply: for all replies. The card is tied.
-/
import Derived.Test.YtmpckglmfklfiaaGreatDoorKcBase
import Derived.Test.YtmpckglmfklfiaaGreatDoorKfF5
import Derived.Test.YtmpckglmfklfiaaGreatDoorCdReplies
import Derived.Test.YtmpckglmfklfiaaGreatDoorCdItems
set_option linter.unusedVariables false
namespace Go.Proofs.YtmpckglmfklfiaaGreatDoor
open Go Go.Ev Go.ChangeShapes Go.WideShapes Go.ChangeAt Go.RowKit

def replyTypes : List TypeId := [31, 3, 9, 26, 38]
set_option maxRecDepth 100000 in
/-- A reply among the arguments, opened. -/
theorem open_reply {W : World} {base : Nat} {v : Value} {H : Type} {enc : TypeId × Value → H} {fuel : Nat} {d : DataW H} {p : List MemPlace} (h : Value.okWide Tryz.prog W .any base 40 v)
    (hf : DataW.trod enc Tryz.prog W 0 (fun _ => true) true fuel 40 v.cells.toList = some (d, p)) (hw : ∀ x ∈ DataW.weights Tryz.prog 40 d, x ≤ reachBytes) :
    ∃ (c : ReplyC) (w u : Value) (l : List UInt8) (its : List ItemC), v = .agg ⟨c.cells w u⟩ ∧ its.length < 4611686018427387904 ∧ Opens W 4 w (fun s x => Sl s s.next 1 x (l.map ofByte)) ∧ Opens W 4 u fun s x => Sl s s.next 4 x (itemsC its) := by
  have hts : Tryz.prog.cellTypes Tryz.prog.depth 40 = some replyTypes := by kernel_rfl
  have hn : Tryz.prog.cellsOf 40 = replyTypes.length := by kernel_rfl
  obtain ⟨cs, hv, hc⟩ := okCells Tryz.underlying40 hts hn h
  clear h
  subst hv
  have h := hc
  clear hc
  obtain ⟨v0, l0, rfl, h0, h⟩ := h.inv
  obtain ⟨v1, l1, rfl, h1, h⟩ := h.inv
  obtain ⟨v2, l2, rfl, h2, h⟩ := h.inv
  obtain ⟨v3, l3, rfl, h3, h⟩ := h.inv
  obtain ⟨v4, l4, rfl, h4, h⟩ := h.inv
  obtain rfl := h.end_
  obtain ⟨er, rfl⟩ := okCell_int Tryz.underlying31 h0
  obtain ⟨n, rfl⟩ := okCell_int Tryz.underlying3 h1
  obtain ⟨tx, rfl⟩ := okCell_string Tryz.underlying9 h2
  obtain ⟨m1, y1, hy1, hw1⟩ := field_arg Tryz.underlying40 hf hw (i := 3) rfl
  have hy1 : DataW.trod enc Tryz.prog W 0 (fun _ => true) true m1 26 [v3] = some y1 := hy1
  obtain ⟨l, -, ho1⟩ := bytes_arg (n := 4) (d := y1.1) (p := y1.2) Tryz.underlying26 Tryz.underlying5 (by kernel_rfl) (by kernel_rfl) h3 hy1 hw1
  obtain ⟨m2, y2, hy2, hw2⟩ := field_arg Tryz.underlying40 hf hw (i := 4) rfl
  have hy2 : DataW.trod enc Tryz.prog W 0 (fun _ => true) true m2 38 [v4] = some y2 := hy2
  obtain ⟨its, hl, ho2⟩ := items_arg (n := 4) (bytes := 40) (d := y2.1) (p := y2.2) Tryz.underlying38 Tryz.underlying85 (by kernel_rfl) (by kernel_rfl) (by decide) rfl rfl rfl rfl rfl rfl rfl rfl
    (by kernel_rfl) (by kernel_rfl) (by kernel_rfl) (by kernel_rfl) Tryz.underlying3 Tryz.underlying3 Tryz.underlying9 Tryz.underlying4 h4 hy2 hw2
  have hr : decide (reachBytes < 4611686018427387904) = true := by kernel_rfl
  have hr := of_decide_eq_true hr
  exact ⟨⟨er, n, tx.data.toList⟩, v3, v4, l, its, rfl, by omega, ho1, ho2⟩
/-- A reply that is laid, and the reply that is there. -/
theorem reply_VR {κ : Inj} (c : ReplyC) {x w y u : Value} (h : VR κ x w) (hs : scal x) (h' : VR κ y u) (hs' : scal y) : VR κ (.agg ⟨c.cells x y⟩) (.agg ⟨c.cells w u⟩) := by
  refine .aggI (fun z hz => ?_) (.cons (.int _ _) (.cons (.int _ _) (.cons (.string _) (.cons h (.cons h' .nil)))))
  simp only [ReplyC.cells, List.mem_cons, List.not_mem_nil, or_false] at hz
  rcases hz with rfl | rfl | rfl | rfl | rfl <;> first | exact hs | exact hs' | trivial
theorem clientReplies_calls {W : World} (hW : W.ShapedOpen Tryz.prog) {c : ReplyC} {w u : Value} {l : List UInt8} {its : List ItemC} (hits : its.length < 4611686018427387904) (ho : Opens W 4 w fun s x => Sl s s.next 1 x (l.map ofByte)) (ho' : Opens W 4 u fun s x => Sl s s.next 4 x (itemsC its)) :
    Calls Tryz.prog 5 #[.agg ⟨c.cells w u⟩] W fun e w' => e = .returned (.bool true) ∧ Below W.heap.size W w' := by
  have hsz : 4 ≤ W.heap.size := globals4 ▸ globs_size globsThere hW
  obtain ⟨Z, xs, hL, hxs, hall⟩ := opens_cells (w := W) (n := 4) [w, u] (fun i s x => match i with | 0 => Sl s s.next 1 x (l.map ofByte) | _ => Sl s s.next 4 x (itemsC its)) (fun i => by cases i <;> exact stays_sl)
    (fun i y hy => by
      match i, hy with
      | 0, hy => cases hy; exact ho
      | 1, hy => cases hy; exact ho'
      | _ + 2, hy => simp at hy) [] Lay.nil
  obtain ⟨x0, x1, rfl⟩ : ∃ x0 x1, xs = [x0, x1] := by
    match xs, hxs with
    | [x0, x1], _ => exact ⟨x0, x1, rfl⟩
  obtain ⟨hV0, hs0, hS0⟩ := hall 0 x0 w rfl rfl
  obtain ⟨hV1, hs1, hS1⟩ := hall 1 x1 u rfl rfl
  rw [List.nil_append] at hL hV0 hV1 hS0 hS1
  obtain ⟨k, hk⟩ := (ClientReplies_run codes codes.tithinglaw26_ClientReplies has_awake (c := c) hits hS0 hS1).says
  exact calls_true (envOf_ok prims_ok) mixed named (rows_globs globals4 Z) (hL.rel hsz) (.cons (reply_VR c hV0 hs0 hV1 hs1) .nil) hk

abbrev laidList := Rows.clientRepliesRow.laid
set_option maxRecDepth 100000 in
theorem clientReplies_lifted (os : Os) (started : os.Started) (H : Type) (enc : TypeId × Value → H) :
    ReturnsInHanded {} Tryz.checked os 5 .any (fun w args => (Rows.clientRepliesSpec.pre enc Tryz.prog Tryz.f5 Rows.clientRepliesRow.domain false w args ∧ laidMetH Tryz.prog laidList w) ∧ sizedMet enc Tryz.prog Tryz.f5 (OpenSpec.ofChange Rows.clientRepliesSpec) false w args)
      (Rows.clientRepliesSpec.post enc Tryz.prog Tryz.f5 false true false false) := by
  refine returnsInHanded_shaped (C := Tryz.checked) (X := fun w _ => laidMetH Tryz.prog laidList w) (fun _ _ _ hh h => h.of_heap hh) own started (by kernel_rfl) Tryz.func5
    (ChangeSpec.witness_shaped (enc := enc) (C := Tryz.checked) (os := os) (X := fun w _ => laidMetH Tryz.prog laidList w) false (World.laidAll Tryz.prog os laidList) #[.agg ⟨ReplyC.cells ⟨0, 0, []⟩ (.slice none 0 0) (.slice none 0 0)⟩] 4 (World.laidAll_os _ _ _)
      (World.shaped_of_ZipB (by kernel_rfl) (by kernel_rfl)) (by kernel_rfl) (by kernel_rfl) (by kernel_rfl)
      (by rw [MakeChecks.laidMetH_plain _ _ _ (by kernel_rfl)]; exact laidMet_laidAll _ (by kernel_rfl) (by kernel_rfl))) ?_
  intro W base args ds gs before hshape hval0 hW _ hz _
  have hval : ∀ (j : Nat) t v, Tryz.f5.params[j]? = some t → args[j]? = some v → Value.okWide Tryz.prog W .any base t v := hval0
  have hW' := hW
  obtain ⟨p, q, hA0, hV, rfl, hfz, hnd⟩ := hW
  have hA : DataW.TrodAll enc Tryz.prog W 0 (fun _ => true) true Tryz.f5.params.toList args.toList ds p := hA0
  have hlt := hA.lt
  rw [Tryz.params5] at hA hval hz
  obtain ⟨v0, d0, rfl, rfl, h0⟩ := trodAll_one hA
  obtain ⟨rfl, rfl⟩ := trodVars_none hV
  have hb := hval 0 40 v0 rfl rfl
  clear hA0 hval0
  have h0' := h0
  obtain ⟨fuel, hf⟩ := h0
  obtain ⟨c, w, u, l, its, rfl, hits, ho, ho'⟩ := open_reply hb hf (weights_head hz).1
  refine (clientReplies_calls hshape hits ho ho').mono fun e W' ⟨he, bel⟩ => ?_
  subst he
  exact ⟨_, rfl, _, _, _, [], _, [], hW', trodAll_mk1 (shut_bool Tryz.underlying4 _), trodAll_mk1 (Below.trod clientReplies_laidOut (by kernel_rfl) (of_decide_eq_true (by kernel_rfl)) h0' bel (fun x hx => hlt x (by simp [hx]))), rfl, bel.frame _, fun h => by cases h⟩

theorem clientReplies_holds : Rows.ClientRepliesSaid :=
  OpenClaim.holds_of_wide 5 Tryz.f5 rfl rfl rfl rfl rfl rfl rfl ⟨rfl, rfl, rfl, rfl, rfl⟩ rfl rfl rfl rfl rfl (by kernel_rfl) Tryz.func5 clientReplies_facts
    (of_decide_eq_true (by kernel_rfl)) (by unfold Func.isWrapper; first | (rw [if_pos (by decide +kernel)]; kernel_rfl) | (rw [if_neg (by decide +kernel)]; exact ⟨rfl, rfl⟩))
    (fun os started H enc _ => clientReplies_lifted os started H enc)

/-- The card. -/
theorem clientReplies_card : Rows.ClientRepliesCardSaid :=
  Claim7.holds_tied_plain_at .later [] [.data, .data, .data] true (true, "d276ca00ff0f827a229ecee0338b3a9555edcac4ae4a6c797282561b70bf7238") true
    clientReplies_holds (fun _ h => by cases h) (by kernel_rfl) (fun _ h => by cases h) clientReplies_row_tie rfl ⟨rfl, rfl⟩ (by kernel_rfl) rfl
    (fun f fn hf hfn => by
      obtain rfl : f = 5 := Option.some.inj ((show Tryz.prog.funcNamed "tithing/tithinglaw26.ClientReplies" = some 5 by kernel_rfl).symm.trans hf) |>.symm
      obtain rfl : fn = Tryz.f5 := (Option.some.inj (Tryz.func5.symm.trans hfn)).symm
      exact ⟨clientReplies_looks.symm, fun j t ht => by
        rw [Tryz.params5] at ht
        have hm : t ∈ [40] := by simpa using Array.mem_of_getElem? ht
        have hall : ([40].all fun u => !Tryz.prog.wantsStandIn u) = true := by kernel_rfl
        exact (show Tryz.prog.wantsStandIn t = false by simpa using List.all_eq_true.1 hall t hm)⟩)
    clientReplies_goesBy
#print axioms clientReplies_card
end Go.Proofs.YtmpckglmfklfiaaGreatDoor
