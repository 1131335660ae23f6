/-
  Bytes and back: for all calls, replies and bytes. The card is tied.
-/
import Derived.Test.YtmpckglmfklfiaaGreatDoorKcBase
import Derived.Test.YtmpckglmfklfiaaGreatDoorKfF7
import Derived.Test.YtmpckglmfklfiaaGreatDoorCdBackRun
import Derived.Test.YtmpckglmfklfiaaGreatDoorCdItems
set_option linter.unusedVariables false
namespace Go.Proofs.YtmpckglmfklfiaaGreatDoor
open Go Go.Ev Go.ChangeShapes Go.WideShapes Go.ChangeAt Go.RowKit

def callTypes : List TypeId := [9, 3, 3, 9, 9, 3, 3, 3, 4, 4, 4, 4, 3, 3, 3, 3, 3, 4, 26]
set_option maxRecDepth 100000 in
/-- A call among the arguments, opened. -/
theorem open_call {W : World} {base : Nat} {v : Value} {H : Type} {enc : TypeId × Value → H} {fuel : Nat} {d : DataW H} {p : List MemPlace} (h : Value.okWide Tryz.prog W .any base 28 v)
    (hf : DataW.trod enc Tryz.prog W 0 (fun _ => true) true fuel 28 v.cells.toList = some (d, p)) (hw : ∀ x ∈ DataW.weights Tryz.prog 28 d, x ≤ reachBytes) :
    ∃ (c : CallC) (w : Value) (l : List UInt8), v = .agg ⟨c.cells w⟩ ∧ Opens W 4 w fun s x => Sl s s.next 1 x (l.map ofByte) := by
  have hts : Tryz.prog.cellTypes Tryz.prog.depth 28 = some callTypes := by kernel_rfl
  have hn : Tryz.prog.cellsOf 28 = callTypes.length := by kernel_rfl
  obtain ⟨cs, hv, hc⟩ := okCells Tryz.underlying28 hts hn h
  clear h
  subst hv
  have h := hc
  clear hc
  obtain ⟨v0, l0, rfl, h0, h⟩ := h.inv
  obtain ⟨v1, l1, rfl, h1, h⟩ := h.inv
  obtain ⟨v2, l2, rfl, h2, h⟩ := h.inv
  obtain ⟨v3, l3, rfl, h3, h⟩ := h.inv
  obtain ⟨v4, l4, rfl, h4, h⟩ := h.inv
  obtain ⟨v5, l5, rfl, h5, h⟩ := h.inv
  obtain ⟨v6, l6, rfl, h6, h⟩ := h.inv
  obtain ⟨v7, l7, rfl, h7, h⟩ := h.inv
  obtain ⟨v8, l8, rfl, h8, h⟩ := h.inv
  obtain ⟨v9, l9, rfl, h9, h⟩ := h.inv
  obtain ⟨v10, l10, rfl, h10, h⟩ := h.inv
  obtain ⟨v11, l11, rfl, h11, h⟩ := h.inv
  obtain ⟨v12, l12, rfl, h12, h⟩ := h.inv
  obtain ⟨v13, l13, rfl, h13, h⟩ := h.inv
  obtain ⟨v14, l14, rfl, h14, h⟩ := h.inv
  obtain ⟨v15, l15, rfl, h15, h⟩ := h.inv
  obtain ⟨v16, l16, rfl, h16, h⟩ := h.inv
  obtain ⟨v17, l17, rfl, h17, h⟩ := h.inv
  obtain ⟨v18, l18, rfl, h18, h⟩ := h.inv
  obtain rfl := h.end_
  obtain ⟨do_, rfl⟩ := okCell_string Tryz.underlying9 h0
  obtain ⟨dir, rfl⟩ := okCell_int Tryz.underlying3 h1
  obtain ⟨fi, rfl⟩ := okCell_int Tryz.underlying3 h2
  obtain ⟨name, rfl⟩ := okCell_string Tryz.underlying9 h3
  obtain ⟨to, rfl⟩ := okCell_string Tryz.underlying9 h4
  obtain ⟨r, rfl⟩ := okCell_int Tryz.underlying3 h5
  obtain ⟨fm, rfl⟩ := okCell_int Tryz.underlying3 h6
  obtain ⟨mn, rfl⟩ := okCell_int Tryz.underlying3 h7
  obtain ⟨b0, rfl⟩ := okCell_bool Tryz.underlying4 h8
  obtain ⟨b1, rfl⟩ := okCell_bool Tryz.underlying4 h9
  obtain ⟨b2, rfl⟩ := okCell_bool Tryz.underlying4 h10
  obtain ⟨b3, rfl⟩ := okCell_bool Tryz.underlying4 h11
  obtain ⟨ow, rfl⟩ := okCell_int Tryz.underlying3 h12
  obtain ⟨gr, rfl⟩ := okCell_int Tryz.underlying3 h13
  obtain ⟨fo, rfl⟩ := okCell_int Tryz.underlying3 h14
  obtain ⟨fg, rfl⟩ := okCell_int Tryz.underlying3 h15
  obtain ⟨fa, rfl⟩ := okCell_int Tryz.underlying3 h16
  obtain ⟨b4, rfl⟩ := okCell_bool Tryz.underlying4 h17
  obtain ⟨n, y, hy, hwy⟩ := field_arg Tryz.underlying28 hf hw (i := 10) rfl
  have hy : DataW.trod enc Tryz.prog W 0 (fun _ => true) true n 26 [v18] = some y := hy
  obtain ⟨l, -, ho⟩ := bytes_arg (n := 4) (d := y.1) (p := y.2) Tryz.underlying26 Tryz.underlying5 (by kernel_rfl) (by kernel_rfl) h18 hy hwy
  exact ⟨⟨do_.data.toList, dir, fi, name.data.toList, to.data.toList, r, fm, mn, b0, b1, b2, b3, ow, gr, fo, fg, fa, b4⟩, v18, l, rfl, ho⟩
/-- A call that is laid, and the call that is there. -/
theorem call_VR {κ : Inj} (c : CallC) {x w : Value} (h : VR κ x w) (hs : scal x) : VR κ (.agg ⟨c.cells x⟩) (.agg ⟨c.cells w⟩) := by
  refine .aggI (fun y hy => ?_) (.cons (.string _) (.cons (.int _ _) (.cons (.int _ _) (.cons (.string _) (.cons (.string _) (.cons (.int _ _) (.cons (.int _ _) (.cons (.int _ _) (.cons (.bool _) (.cons (.bool _) (.cons (.bool _) (.cons (.bool _) (.cons (.int _ _) (.cons (.int _ _) (.cons (.int _ _) (.cons (.int _ _) (.cons (.int _ _) (.cons (.bool _) (.cons h .nil)))))))))))))))))))
  simp only [CallC.cells, List.mem_cons, List.not_mem_nil, or_false] at hy
  rcases hy with rfl | rfl | rfl | rfl | rfl | rfl | rfl | rfl | rfl | rfl | rfl | rfl | rfl | rfl | rfl | rfl | rfl | rfl | rfl <;> first | exact hs | trivial
def replyTypes : List TypeId := [31, 3, 9, 26, 38]
set_option maxRecDepth 100000 in
/-- A reply among the arguments, opened. -/
theorem open_reply {W : World} {base : Nat} {v : Value} {H : Type} {enc : TypeId × Value → H} {fuel : Nat} {d : DataW H} {p : List MemPlace} (h : Value.okWide Tryz.prog W .any base 40 v)
    (hf : DataW.trod enc Tryz.prog W 0 (fun _ => true) true fuel 40 v.cells.toList = some (d, p)) (hw : ∀ x ∈ DataW.weights Tryz.prog 40 d, x ≤ reachBytes) :
    ∃ (c : ReplyC) (w u : Value) (l : List UInt8) (its : List ItemC), v = .agg ⟨c.cells w u⟩ ∧ its.length < 4611686018427387904 ∧ Opens W 4 w (fun s x => Sl s s.next 1 x (l.map ofByte)) ∧ Opens W 4 u fun s x => Sl s s.next 4 x (itemsC its) := by
  have hts : Tryz.prog.cellTypes Tryz.prog.depth 40 = some replyTypes := by kernel_rfl
  have hn : Tryz.prog.cellsOf 40 = replyTypes.length := by kernel_rfl
  obtain ⟨cs, hv, hc⟩ := okCells Tryz.underlying40 hts hn h
  clear h
  subst hv
  have h := hc
  clear hc
  obtain ⟨v0, l0, rfl, h0, h⟩ := h.inv
  obtain ⟨v1, l1, rfl, h1, h⟩ := h.inv
  obtain ⟨v2, l2, rfl, h2, h⟩ := h.inv
  obtain ⟨v3, l3, rfl, h3, h⟩ := h.inv
  obtain ⟨v4, l4, rfl, h4, h⟩ := h.inv
  obtain rfl := h.end_
  obtain ⟨er, rfl⟩ := okCell_int Tryz.underlying31 h0
  obtain ⟨n, rfl⟩ := okCell_int Tryz.underlying3 h1
  obtain ⟨tx, rfl⟩ := okCell_string Tryz.underlying9 h2
  obtain ⟨m1, y1, hy1, hw1⟩ := field_arg Tryz.underlying40 hf hw (i := 3) rfl
  have hy1 : DataW.trod enc Tryz.prog W 0 (fun _ => true) true m1 26 [v3] = some y1 := hy1
  obtain ⟨l, -, ho1⟩ := bytes_arg (n := 4) (d := y1.1) (p := y1.2) Tryz.underlying26 Tryz.underlying5 (by kernel_rfl) (by kernel_rfl) h3 hy1 hw1
  obtain ⟨m2, y2, hy2, hw2⟩ := field_arg Tryz.underlying40 hf hw (i := 4) rfl
  have hy2 : DataW.trod enc Tryz.prog W 0 (fun _ => true) true m2 38 [v4] = some y2 := hy2
  obtain ⟨its, hl, ho2⟩ := items_arg (n := 4) (bytes := 40) (d := y2.1) (p := y2.2) Tryz.underlying38 Tryz.underlying85 (by kernel_rfl) (by kernel_rfl) (by decide) rfl rfl rfl rfl rfl rfl rfl rfl
    (by kernel_rfl) (by kernel_rfl) (by kernel_rfl) (by kernel_rfl) Tryz.underlying3 Tryz.underlying3 Tryz.underlying9 Tryz.underlying4 h4 hy2 hw2
  have hr : decide (reachBytes < 4611686018427387904) = true := by kernel_rfl
  have hr := of_decide_eq_true hr
  exact ⟨⟨er, n, tx.data.toList⟩, v3, v4, l, its, rfl, by omega, ho1, ho2⟩
/-- A reply that is laid, and the reply that is there. -/
theorem reply_VR {κ : Inj} (c : ReplyC) {x w y u : Value} (h : VR κ x w) (hs : scal x) (h' : VR κ y u) (hs' : scal y) : VR κ (.agg ⟨c.cells x y⟩) (.agg ⟨c.cells w u⟩) := by
  refine .aggI (fun z hz => ?_) (.cons (.int _ _) (.cons (.int _ _) (.cons (.string _) (.cons h (.cons h' .nil)))))
  simp only [ReplyC.cells, List.mem_cons, List.not_mem_nil, or_false] at hz
  rcases hz with rfl | rfl | rfl | rfl | rfl <;> first | exact hs | exact hs' | trivial
theorem clientBack_calls {W : World} (hW : W.ShapedOpen Tryz.prog) {c : CallC} {r : ReplyC} {w w' u v : Value} {d d' l : List UInt8} {its : List ItemC} (hits : its.length < 4611686018427387904) (ho0 : Opens W 4 w fun s x => Sl s s.next 1 x (d.map ofByte))
    (ho1 : Opens W 4 w' fun s x => Sl s s.next 1 x (d'.map ofByte)) (ho2 : Opens W 4 u fun s x => Sl s s.next 4 x (itemsC its)) (ho3 : Opens W 4 v fun s x => Sl s s.next 1 x (l.map ofByte)) :
    Calls Tryz.prog 7 #[.agg ⟨c.cells w⟩, .agg ⟨r.cells w' u⟩, v] W fun e w' => e = .returned (.bool true) ∧ Below W.heap.size W w' := by
  have hsz : 4 ≤ W.heap.size := globals4 ▸ globs_size globsThere hW
  obtain ⟨Z, xs, hL, hxs, hall⟩ := opens_cells (w := W) (n := 4) [w, w', u, v] (fun i s x => match i with | 0 => Sl s s.next 1 x (d.map ofByte) | 1 => Sl s s.next 1 x (d'.map ofByte) | 2 => Sl s s.next 4 x (itemsC its) | _ => Sl s s.next 1 x (l.map ofByte))
    (fun i => by
      match i with
      | 0 => exact stays_sl
      | 1 => exact stays_sl
      | 2 => exact stays_sl
      | _ + 3 => exact stays_sl)
    (fun i y hy => by
      match i, hy with
      | 0, hy => cases hy; exact ho0
      | 1, hy => cases hy; exact ho1
      | 2, hy => cases hy; exact ho2
      | 3, hy => cases hy; exact ho3
      | _ + 4, hy => simp at hy) [] Lay.nil
  obtain ⟨x0, x1, x2, x3, rfl⟩ : ∃ x0 x1 x2 x3, xs = [x0, x1, x2, x3] := by
    match xs, hxs with
    | [x0, x1, x2, x3], _ => exact ⟨x0, x1, x2, x3, rfl⟩
  obtain ⟨hV0, hs0, hS0⟩ := hall 0 x0 w rfl rfl
  obtain ⟨hV1, hs1, hS1⟩ := hall 1 x1 w' rfl rfl
  obtain ⟨hV2, hs2, hS2⟩ := hall 2 x2 u rfl rfl
  obtain ⟨hV3, hs3, hS3⟩ := hall 3 x3 v rfl rfl
  rw [List.nil_append] at hL hV0 hV1 hV2 hV3 hS0 hS1 hS2 hS3
  obtain ⟨k, hk⟩ := (ClientBack_run codes codes.tithinglaw26_ClientBack has_awake (c := c) (r := r) hits hS0 hS1 hS2 hS3).says
  exact calls_true (envOf_ok prims_ok) mixed named (rows_globs globals4 Z) (hL.rel hsz) (.cons (call_VR c hV0 hs0) (.cons (reply_VR r hV1 hs1 hV2 hs2) (.cons hV3 .nil))) hk

abbrev laidList := Rows.clientBackRow.laid
set_option maxRecDepth 100000 in
theorem clientBack_lifted (os : Os) (started : os.Started) (H : Type) (enc : TypeId × Value → H) :
    ReturnsInHanded {} Tryz.checked os 7 .any (fun w args => (Rows.clientBackSpec.pre enc Tryz.prog Tryz.f7 Rows.clientBackRow.domain false w args ∧ laidMetH Tryz.prog laidList w) ∧ sizedMet enc Tryz.prog Tryz.f7 (OpenSpec.ofChange Rows.clientBackSpec) false w args)
      (Rows.clientBackSpec.post enc Tryz.prog Tryz.f7 false true false false) := by
  refine returnsInHanded_shaped (C := Tryz.checked) (X := fun w _ => laidMetH Tryz.prog laidList w) (fun _ _ _ hh h => h.of_heap hh) own started (by kernel_rfl) Tryz.func7
    (ChangeSpec.witness_shaped (enc := enc) (C := Tryz.checked) (os := os) (X := fun w _ => laidMetH Tryz.prog laidList w) false (World.laidAll Tryz.prog os laidList) #[.agg ⟨CallC.cells ⟨[], 0, 0, [], [], 0, 0, 0, false, false, false, false, 0, 0, 0, 0, 0, false⟩ (.slice none 0 0)⟩, .agg ⟨ReplyC.cells ⟨0, 0, []⟩ (.slice none 0 0) (.slice none 0 0)⟩, .slice none 0 0] 4 (World.laidAll_os _ _ _)
      (World.shaped_of_ZipB (by kernel_rfl) (by kernel_rfl)) (by kernel_rfl) (by kernel_rfl) (by kernel_rfl)
      (by rw [MakeChecks.laidMetH_plain _ _ _ (by kernel_rfl)]; exact laidMet_laidAll _ (by kernel_rfl) (by kernel_rfl))) ?_
  intro W base args ds gs before hshape hval0 hW _ hz _
  have hval : ∀ (j : Nat) t v, Tryz.f7.params[j]? = some t → args[j]? = some v → Value.okWide Tryz.prog W .any base t v := hval0
  have hW' := hW
  obtain ⟨p, q, hA0, hV, rfl, hfz, hnd⟩ := hW
  have hA : DataW.TrodAll enc Tryz.prog W 0 (fun _ => true) true Tryz.f7.params.toList args.toList ds p := hA0
  have hlt := hA.lt
  rw [Tryz.params7] at hA hval hz
  obtain ⟨v0, v1, v2, d0, d1, d2, p0, p1, p2, rfl, rfl, rfl, h0, h1, h2⟩ := trodAll_three hA
  obtain ⟨rfl, rfl⟩ := trodVars_none hV
  have hb0 := hval 0 28 v0 rfl rfl
  have hb1 := hval 1 40 v1 rfl rfl
  have hb2 := hval 2 26 v2 rfl rfl
  clear hA0 hval0
  have hb2 : Cell.okWide Tryz.prog W .any base 26 v2 := by
    simp only [Value.okWide, Tryz.underlying26] at hb2
    exact hb2
  have hcells : v2.cells.toList = [v2] := by rcases okCell_slice2 Tryz.underlying26 hb2 with rfl | ⟨_, _, _, rfl, _⟩ <;> rfl
  have h0' := h0
  have h1' := h1
  have h2' := h2
  obtain ⟨fuel0, hf0⟩ := h0
  obtain ⟨fuel1, hf1⟩ := h1
  obtain ⟨fuel2, hf2⟩ := h2
  rw [hcells] at hf2
  have z0 := weights_head hz
  have z1 := weights_head z0.2
  have z2 := weights_head z1.2
  obtain ⟨c, w, l, rfl, ho0⟩ := open_call hb0 hf0 z0.1
  obtain ⟨r, w', u, l', its, rfl, hits, ho1, ho2⟩ := open_reply hb1 hf1 z1.1
  obtain ⟨l2, -, ho3⟩ := bytes_arg (n := 4) Tryz.underlying26 Tryz.underlying5 (by kernel_rfl) (by kernel_rfl) hb2 hf2 z2.1
  refine (clientBack_calls hshape hits ho0 ho1 ho2 ho3).mono fun e W' ⟨he, bel⟩ => ?_
  subst he
  have lo := Below.trod (P := Tryz.prog) clientBack_laidOut (by kernel_rfl) (of_decide_eq_true (by kernel_rfl)) h0' bel (fun x hx => hlt x (by simp [hx]))
  have l1 := Below.trod (P := Tryz.prog) clientBack_laidOut (by kernel_rfl) (of_decide_eq_true (by kernel_rfl)) h1' bel (fun x hx => hlt x (by simp [hx]))
  have l2 := Below.trod (P := Tryz.prog) clientBack_laidOut (by kernel_rfl) (of_decide_eq_true (by kernel_rfl)) h2' bel (fun x hx => hlt x (by simp [hx]))
  exact ⟨_, rfl, _, _, _, [], _, [], hW', trodAll_mk1 (shut_bool Tryz.underlying4 _), trodAll_mk3 lo l1 l2, rfl, bel.frame _, fun h => by cases h⟩

theorem clientBack_holds : Rows.ClientBackSaid :=
  OpenClaim.holds_of_wide 7 Tryz.f7 rfl rfl rfl rfl rfl rfl rfl ⟨rfl, rfl, rfl, rfl, rfl⟩ rfl rfl rfl rfl rfl (by kernel_rfl) Tryz.func7 clientBack_facts
    (of_decide_eq_true (by kernel_rfl)) (by unfold Func.isWrapper; first | (rw [if_pos (by decide +kernel)]; kernel_rfl) | (rw [if_neg (by decide +kernel)]; exact ⟨rfl, rfl⟩))
    (fun os started H enc _ => clientBack_lifted os started H enc)

/-- The card. -/
theorem clientBack_card : Rows.ClientBackCardSaid :=
  Claim7.holds_tied_plain_at .later [] [.data, .data, .data] true (true, "d276ca00ff0f827a229ecee0338b3a9555edcac4ae4a6c797282561b70bf7238") true
    clientBack_holds (fun _ h => by cases h) (by kernel_rfl) (fun _ h => by cases h) clientBack_row_tie rfl ⟨rfl, rfl⟩ (by kernel_rfl) rfl
    (fun f fn hf hfn => by
      obtain rfl : f = 7 := Option.some.inj ((show Tryz.prog.funcNamed "tithing/tithinglaw26.ClientBack" = some 7 by kernel_rfl).symm.trans hf) |>.symm
      obtain rfl : fn = Tryz.f7 := (Option.some.inj (Tryz.func7.symm.trans hfn)).symm
      exact ⟨clientBack_looks.symm, fun j t ht => by
        rw [Tryz.params7] at ht
        have hm : t ∈ [28, 40, 26] := by simpa using Array.mem_of_getElem? ht
        have hall : ([28, 40, 26].all fun u => !Tryz.prog.wantsStandIn u) = true := by kernel_rfl
        exact (show Tryz.prog.wantsStandIn t = false by simpa using List.all_eq_true.1 hall t hm)⟩)
    clientBack_goesBy
#print axioms clientBack_card
end Go.Proofs.YtmpckglmfklfiaaGreatDoor
