/-
  The bytes of a call: for all calls. The card is tied.
-/
import Derived.Test.YtmpckglmfklfiaaGreatDoorKcBase
import Derived.Test.YtmpckglmfklfiaaGreatDoorKfF3
import Derived.Test.YtmpckglmfklfiaaGreatDoorCdCalls
set_option linter.unusedVariables false
namespace Go.Proofs.YtmpckglmfklfiaaGreatDoor
open Go Go.Ev Go.ChangeShapes Go.WideShapes Go.ChangeAt Go.RowKit

def callTypes : List TypeId := [9, 3, 3, 9, 9, 3, 3, 3, 4, 4, 4, 4, 3, 3, 3, 3, 3, 4, 26]
set_option maxRecDepth 100000 in
/-- A call among the arguments, opened. -/
theorem open_call {W : World} {base : Nat} {v : Value} {H : Type} {enc : TypeId × Value → H} {fuel : Nat} {d : DataW H} {p : List MemPlace} (h : Value.okWide Tryz.prog W .any base 28 v)
    (hf : DataW.trod enc Tryz.prog W 0 (fun _ => true) true fuel 28 v.cells.toList = some (d, p)) (hw : ∀ x ∈ DataW.weights Tryz.prog 28 d, x ≤ reachBytes) :
    ∃ (c : CallC) (w : Value) (l : List UInt8), v = .agg ⟨c.cells w⟩ ∧ Opens W 4 w fun s x => Sl s s.next 1 x (l.map ofByte) := by
  have hts : Tryz.prog.cellTypes Tryz.prog.depth 28 = some callTypes := by kernel_rfl
  have hn : Tryz.prog.cellsOf 28 = callTypes.length := by kernel_rfl
  obtain ⟨cs, hv, hc⟩ := okCells Tryz.underlying28 hts hn h
  clear h
  subst hv
  have h := hc
  clear hc
  obtain ⟨v0, l0, rfl, h0, h⟩ := h.inv
  obtain ⟨v1, l1, rfl, h1, h⟩ := h.inv
  obtain ⟨v2, l2, rfl, h2, h⟩ := h.inv
  obtain ⟨v3, l3, rfl, h3, h⟩ := h.inv
  obtain ⟨v4, l4, rfl, h4, h⟩ := h.inv
  obtain ⟨v5, l5, rfl, h5, h⟩ := h.inv
  obtain ⟨v6, l6, rfl, h6, h⟩ := h.inv
  obtain ⟨v7, l7, rfl, h7, h⟩ := h.inv
  obtain ⟨v8, l8, rfl, h8, h⟩ := h.inv
  obtain ⟨v9, l9, rfl, h9, h⟩ := h.inv
  obtain ⟨v10, l10, rfl, h10, h⟩ := h.inv
  obtain ⟨v11, l11, rfl, h11, h⟩ := h.inv
  obtain ⟨v12, l12, rfl, h12, h⟩ := h.inv
  obtain ⟨v13, l13, rfl, h13, h⟩ := h.inv
  obtain ⟨v14, l14, rfl, h14, h⟩ := h.inv
  obtain ⟨v15, l15, rfl, h15, h⟩ := h.inv
  obtain ⟨v16, l16, rfl, h16, h⟩ := h.inv
  obtain ⟨v17, l17, rfl, h17, h⟩ := h.inv
  obtain ⟨v18, l18, rfl, h18, h⟩ := h.inv
  obtain rfl := h.end_
  obtain ⟨do_, rfl⟩ := okCell_string Tryz.underlying9 h0
  obtain ⟨dir, rfl⟩ := okCell_int Tryz.underlying3 h1
  obtain ⟨fi, rfl⟩ := okCell_int Tryz.underlying3 h2
  obtain ⟨name, rfl⟩ := okCell_string Tryz.underlying9 h3
  obtain ⟨to, rfl⟩ := okCell_string Tryz.underlying9 h4
  obtain ⟨r, rfl⟩ := okCell_int Tryz.underlying3 h5
  obtain ⟨fm, rfl⟩ := okCell_int Tryz.underlying3 h6
  obtain ⟨mn, rfl⟩ := okCell_int Tryz.underlying3 h7
  obtain ⟨b0, rfl⟩ := okCell_bool Tryz.underlying4 h8
  obtain ⟨b1, rfl⟩ := okCell_bool Tryz.underlying4 h9
  obtain ⟨b2, rfl⟩ := okCell_bool Tryz.underlying4 h10
  obtain ⟨b3, rfl⟩ := okCell_bool Tryz.underlying4 h11
  obtain ⟨ow, rfl⟩ := okCell_int Tryz.underlying3 h12
  obtain ⟨gr, rfl⟩ := okCell_int Tryz.underlying3 h13
  obtain ⟨fo, rfl⟩ := okCell_int Tryz.underlying3 h14
  obtain ⟨fg, rfl⟩ := okCell_int Tryz.underlying3 h15
  obtain ⟨fa, rfl⟩ := okCell_int Tryz.underlying3 h16
  obtain ⟨b4, rfl⟩ := okCell_bool Tryz.underlying4 h17
  obtain ⟨n, y, hy, hwy⟩ := field_arg Tryz.underlying28 hf hw (i := 10) rfl
  have hy : DataW.trod enc Tryz.prog W 0 (fun _ => true) true n 26 [v18] = some y := hy
  obtain ⟨l, -, ho⟩ := bytes_arg (n := 4) (d := y.1) (p := y.2) Tryz.underlying26 Tryz.underlying5 (by kernel_rfl) (by kernel_rfl) h18 hy hwy
  exact ⟨⟨do_.data.toList, dir, fi, name.data.toList, to.data.toList, r, fm, mn, b0, b1, b2, b3, ow, gr, fo, fg, fa, b4⟩, v18, l, rfl, ho⟩
/-- A call that is laid, and the call that is there. -/
theorem call_VR {κ : Inj} (c : CallC) {x w : Value} (h : VR κ x w) (hs : scal x) : VR κ (.agg ⟨c.cells x⟩) (.agg ⟨c.cells w⟩) := by
  refine .aggI (fun y hy => ?_) (.cons (.string _) (.cons (.int _ _) (.cons (.int _ _) (.cons (.string _) (.cons (.string _) (.cons (.int _ _) (.cons (.int _ _) (.cons (.int _ _) (.cons (.bool _) (.cons (.bool _) (.cons (.bool _) (.cons (.bool _) (.cons (.int _ _) (.cons (.int _ _) (.cons (.int _ _) (.cons (.int _ _) (.cons (.int _ _) (.cons (.bool _) (.cons h .nil)))))))))))))))))))
  simp only [CallC.cells, List.mem_cons, List.not_mem_nil, or_false] at hy
  rcases hy with rfl | rfl | rfl | rfl | rfl | rfl | rfl | rfl | rfl | rfl | rfl | rfl | rfl | rfl | rfl | rfl | rfl | rfl | rfl <;> first | exact hs | trivial
theorem clientCalls_calls {W : World} (hW : W.ShapedOpen Tryz.prog) {c : CallC} {w : Value} {l : List UInt8} (ho : Opens W 4 w fun s x => Sl s s.next 1 x (l.map ofByte)) :
    Calls Tryz.prog 3 #[.agg ⟨c.cells w⟩] W fun e w' => e = .returned (.bool true) ∧ Below W.heap.size W w' := by
  have hsz : 4 ≤ W.heap.size := globals4 ▸ globs_size globsThere hW
  obtain ⟨Z, x, hL, hV, hs, hS⟩ := ho [] Lay.nil
  rw [List.nil_append] at hL hV hS
  obtain ⟨k, hk⟩ := (ClientCalls_run codes codes.tithinglaw26_ClientCalls has_awake (c := c) hS).says
  exact calls_true (envOf_ok prims_ok) mixed named (rows_globs globals4 Z) (hL.rel hsz) (.cons (call_VR c hV hs) .nil) hk

abbrev laidList := Rows.clientCallsRow.laid
set_option maxRecDepth 100000 in
theorem clientCalls_lifted (os : Os) (started : os.Started) (H : Type) (enc : TypeId × Value → H) :
    ReturnsInHanded {} Tryz.checked os 3 .any (fun w args => (Rows.clientCallsSpec.pre enc Tryz.prog Tryz.f3 Rows.clientCallsRow.domain false w args ∧ laidMetH Tryz.prog laidList w) ∧ sizedMet enc Tryz.prog Tryz.f3 (OpenSpec.ofChange Rows.clientCallsSpec) false w args)
      (Rows.clientCallsSpec.post enc Tryz.prog Tryz.f3 false true false false) := by
  refine returnsInHanded_shaped (C := Tryz.checked) (X := fun w _ => laidMetH Tryz.prog laidList w) (fun _ _ _ hh h => h.of_heap hh) own started (by kernel_rfl) Tryz.func3
    (ChangeSpec.witness_shaped (enc := enc) (C := Tryz.checked) (os := os) (X := fun w _ => laidMetH Tryz.prog laidList w) false (World.laidAll Tryz.prog os laidList) #[.agg ⟨CallC.cells ⟨[], 0, 0, [], [], 0, 0, 0, false, false, false, false, 0, 0, 0, 0, 0, false⟩ (.slice none 0 0)⟩] 4 (World.laidAll_os _ _ _)
      (World.shaped_of_ZipB (by kernel_rfl) (by kernel_rfl)) (by kernel_rfl) (by kernel_rfl) (by kernel_rfl)
      (by rw [MakeChecks.laidMetH_plain _ _ _ (by kernel_rfl)]; exact laidMet_laidAll _ (by kernel_rfl) (by kernel_rfl))) ?_
  intro W base args ds gs before hshape hval0 hW _ hz _
  have hval : ∀ (j : Nat) t v, Tryz.f3.params[j]? = some t → args[j]? = some v → Value.okWide Tryz.prog W .any base t v := hval0
  have hW' := hW
  obtain ⟨p, q, hA0, hV, rfl, hfz, hnd⟩ := hW
  have hA : DataW.TrodAll enc Tryz.prog W 0 (fun _ => true) true Tryz.f3.params.toList args.toList ds p := hA0
  have hlt := hA.lt
  rw [Tryz.params3] at hA hval hz
  obtain ⟨v0, d0, rfl, rfl, h0⟩ := trodAll_one hA
  obtain ⟨rfl, rfl⟩ := trodVars_none hV
  have hb := hval 0 28 v0 rfl rfl
  clear hA0 hval0
  have h0' := h0
  obtain ⟨fuel, hf⟩ := h0
  obtain ⟨c, w, l, rfl, ho⟩ := open_call hb hf (weights_head hz).1
  refine (clientCalls_calls hshape ho).mono fun e W' ⟨he, bel⟩ => ?_
  subst he
  exact ⟨_, rfl, _, _, _, [], _, [], hW', trodAll_mk1 (shut_bool Tryz.underlying4 _), trodAll_mk1 (Below.trod clientCalls_laidOut (by kernel_rfl) (of_decide_eq_true (by kernel_rfl)) h0' bel (fun x hx => hlt x (by simp [hx]))), rfl, bel.frame _, fun h => by cases h⟩

theorem clientCalls_holds : Rows.ClientCallsSaid :=
  OpenClaim.holds_of_wide 3 Tryz.f3 rfl rfl rfl rfl rfl rfl rfl ⟨rfl, rfl, rfl, rfl, rfl⟩ rfl rfl rfl rfl rfl (by kernel_rfl) Tryz.func3 clientCalls_facts
    (of_decide_eq_true (by kernel_rfl)) (by unfold Func.isWrapper; first | (rw [if_pos (by decide +kernel)]; kernel_rfl) | (rw [if_neg (by decide +kernel)]; exact ⟨rfl, rfl⟩))
    (fun os started H enc _ => clientCalls_lifted os started H enc)

/-- The card. -/
theorem clientCalls_card : Rows.ClientCallsCardSaid :=
  Claim7.holds_tied_plain_at .later [] [.data, .data, .data] true (true, "d276ca00ff0f827a229ecee0338b3a9555edcac4ae4a6c797282561b70bf7238") true
    clientCalls_holds (fun _ h => by cases h) (by kernel_rfl) (fun _ h => by cases h) clientCalls_row_tie rfl ⟨rfl, rfl⟩ (by kernel_rfl) rfl
    (fun f fn hf hfn => by
      obtain rfl : f = 3 := Option.some.inj ((show Tryz.prog.funcNamed "tithing/tithinglaw26.ClientCalls" = some 3 by kernel_rfl).symm.trans hf) |>.symm
      obtain rfl : fn = Tryz.f3 := (Option.some.inj (Tryz.func3.symm.trans hfn)).symm
      exact ⟨clientCalls_looks.symm, fun j t ht => by
        rw [Tryz.params3] at ht
        have hm : t ∈ [28] := by simpa using Array.mem_of_getElem? ht
        have hall : ([28].all fun u => !Tryz.prog.wantsStandIn u) = true := by kernel_rfl
        exact (show Tryz.prog.wantsStandIn t = false by simpa using List.all_eq_true.1 hall t hm)⟩)
    clientCalls_goesBy
#print axioms clientCalls_card
end Go.Proofs.YtmpckglmfklfiaaGreatDoor
