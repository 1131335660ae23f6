/-
  What nil lines and mounts, and zero ones, return, and that a nil server is refused: for every number, every call and every text. The card is tied.
-/
import Derived.Test.YtfacpijihpkdcaaGreatDoorTie
import Derived.Test.YtfacpijihpkdcaaGreatDoorCards
import Derived.Test.YtfacpijihpkdcaaGreatDoorClRun
import Derived.Test.YtfacpijihpkdcaaGreatDoorClFirst
import Derived.Test.YtfacpijihpkdcaaGreatDoorClIns
import Derived.Test.YtfacpijihpkdcaaGreatDoorClSh
import Derived.Test.YtfacpijihpkdcaaGreatDoorClFacts
import Derived.Test.YtfacpijihpkdcaaGreatDoorEvPart3
import Derived.Carry
set_option linter.unusedVariables false
namespace Go.Proofs.YtfacpijihpkdcaaGreatDoor
open Go Go.Ev Go.ChangeShapes Go.WideShapes Go.ChangeAt Go.RowKit
open Go.ChangeMaps (open_string shut_string)

theorem own : ownKnob Tryz.prog.godebug = none := by kernel_rfl
open Go.Proofs Go.Shelf in
theorem sorts (m : Nat) : AnyZI.SortsIn Tryz.prog Tryz.sortedA_ren Fence.wide m :=
  ⟨fun blk off cap ss W hH hblk hsz => callsIn_wide.2 (AnyM.slices_Sort_int Tryz.sortA blk off cap ss W hH hblk hsz),
   fun p cap W => callsIn_wide.2 (AnyM.slices_Sort_int_none Tryz.sortA p cap W)⟩
theorem isPrim_sorted : IsPrim Tryz.prog 120 (pSortedKeys [299] (tag 3 1)) :=
  isPrim_sortedKeys Tryz.sortedA sorts (fun args w => Tryz.call100 args w) (fun g hg => by
    obtain rfl : g = 299 := by simpa using hg
    exact ⟨Tryz.keysA_ren, Tryz.keysA, rfl, fun args w => Tryz.call299 args w⟩)
theorem mixed : Tryz.prog.follows .mixedOrders = true := by kernel_rfl
theorem named : namedB Tryz.prog = true := by kernel_rfl
theorem none_ok : ∀ x ∈ ([] : List (FuncId × Prim)), IsPrim Tryz.prog x.1 x.2 := by intro x hx; cases hx
theorem isPrim_cloneA : IsPrim Tryz.prog 155 pMapsClone := by
  have h := isPrim_clone Tryz.cloneA
  have e : Tryz.cloneA_ren.f 5 = 155 := by kernel_rfl
  rwa [e] at h
theorem isPrim_cloneB : IsPrim Tryz.prog 393 pMapsClone := by
  have h := isPrim_clone Tryz.cloneB
  have e : Tryz.cloneB_ren.f 5 = 393 := by kernel_rfl
  rwa [e] at h
theorem primsA_ok : ∀ x ∈ primsA, IsPrim Tryz.prog x.1 x.2 := by
  intro x hx
  simp only [primsA, List.mem_cons, List.not_mem_nil, or_false] at hx
  rcases hx with rfl | rfl | rfl | rfl | rfl | rfl | rfl | rfl | rfl
  · exact isPrim_sum (envOf_ok none_ok) mixed named (by kernel_rfl)
  · exact isPrim_compare (fn := Tryz.f432) ⟨Tryz.func432, by kernel_rfl, by kernel_rfl, by kernel_rfl, by kernel_rfl⟩
  · exact isPrim_indexByteString (fn := Tryz.f307) ⟨Tryz.func307, by kernel_rfl, by kernel_rfl, by kernel_rfl, by kernel_rfl⟩
  · exact isPrim_ins
  · exact isPrim_sorted
  · exact isPrim_cloneA
  · exact isPrim_cloneB
  · exact isPrim_noneSl (envOf_ok none_ok) mixed named (by kernel_rfl)
  · exact isPrim_nonePtr (envOf_ok none_ok) mixed named (by kernel_rfl)
theorem primsB_ok : ∀ x ∈ primsB, IsPrim Tryz.prog x.1 x.2 := by
  intro x hx
  rcases List.mem_cons.1 hx with rfl | hx
  · exact isPrim_at (envOf_ok none_ok) mixed named disk_run
  · exact primsA_ok x hx
theorem primsC_ok : ∀ x ∈ primsC, IsPrim Tryz.prog x.1 x.2 := by
  intro x hx
  rcases List.mem_cons.1 hx with rfl | hx
  · exact isPrim_at (envOf_ok primsB_ok) mixed named fresh_run
  · exact primsA_ok x hx
theorem globsThere : globsB Tryz.prog = true := by kernel_rfl
theorem prims_ok : ∀ x ∈ prims, IsPrim Tryz.prog x.1 x.2 := by
  intro x hx
  simp only [prims, List.mem_cons, List.not_mem_nil, or_false] at hx
  subst hx
  obtain ⟨n, h⟩ := first_run
  exact isPrim_true (envOf_ok primsC_ok) mixed named h

def askTypes : List TypeId := [9, 3, 3, 9, 9, 3, 3, 3, 4, 4, 4, 4, 3, 3, 3, 3, 3, 4, 26]
set_option maxRecDepth 100000 in
/-- The parts of an order. -/
theorem open_ask {W : World} {r : Reach} {base : Nat} {v : Value} (hW : 0 < W.heap.size) (h : Value.okWide Tryz.prog W r base 28 v) : ∃ (do_ name to : ByteArray) (d f r fm mn ow gr fo fg fa : Int) (b0 b1 b2 b3 b4 : Bool) (p : Option Addr) (m c : Nat) (B : Blk),
    B.b < W.heap.size ∧ VR (globInj1 6 B) (.agg ⟨cellsC do_ name to d f r fm mn ow gr fo fg fa b0 b1 b2 b3 b4 p m c⟩) v := by
  have hts : Tryz.prog.cellTypes Tryz.prog.depth 28 = some askTypes := by kernel_rfl
  have hn : Tryz.prog.cellsOf 28 = askTypes.length := by kernel_rfl
  obtain ⟨cs, hv, hc⟩ := okCells Tryz.underlying28 hts hn h
  clear h
  subst hv
  have h := hc
  clear hc
  obtain ⟨v0, l0, rfl, h0, h⟩ := h.inv
  obtain ⟨v1, l1, rfl, h1, h⟩ := h.inv
  obtain ⟨v2, l2, rfl, h2, h⟩ := h.inv
  obtain ⟨v3, l3, rfl, h3, h⟩ := h.inv
  obtain ⟨v4, l4, rfl, h4, h⟩ := h.inv
  obtain ⟨v5, l5, rfl, h5, h⟩ := h.inv
  obtain ⟨v6, l6, rfl, h6, h⟩ := h.inv
  obtain ⟨v7, l7, rfl, h7, h⟩ := h.inv
  obtain ⟨v8, l8, rfl, h8, h⟩ := h.inv
  obtain ⟨v9, l9, rfl, h9, h⟩ := h.inv
  obtain ⟨v10, l10, rfl, h10, h⟩ := h.inv
  obtain ⟨v11, l11, rfl, h11, h⟩ := h.inv
  obtain ⟨v12, l12, rfl, h12, h⟩ := h.inv
  obtain ⟨v13, l13, rfl, h13, h⟩ := h.inv
  obtain ⟨v14, l14, rfl, h14, h⟩ := h.inv
  obtain ⟨v15, l15, rfl, h15, h⟩ := h.inv
  obtain ⟨v16, l16, rfl, h16, h⟩ := h.inv
  obtain ⟨v17, l17, rfl, h17, h⟩ := h.inv
  obtain ⟨v18, l18, rfl, h18, h⟩ := h.inv
  obtain rfl := h.end_
  obtain ⟨do_, rfl⟩ := okCell_string Tryz.underlying9 h0
  obtain ⟨d, rfl⟩ := okCell_int Tryz.underlying3 h1
  obtain ⟨f, rfl⟩ := okCell_int Tryz.underlying3 h2
  obtain ⟨name, rfl⟩ := okCell_string Tryz.underlying9 h3
  obtain ⟨to, rfl⟩ := okCell_string Tryz.underlying9 h4
  obtain ⟨r, rfl⟩ := okCell_int Tryz.underlying3 h5
  obtain ⟨fm, rfl⟩ := okCell_int Tryz.underlying3 h6
  obtain ⟨mn, rfl⟩ := okCell_int Tryz.underlying3 h7
  obtain ⟨b0, rfl⟩ := okCell_bool Tryz.underlying4 h8
  obtain ⟨b1, rfl⟩ := okCell_bool Tryz.underlying4 h9
  obtain ⟨b2, rfl⟩ := okCell_bool Tryz.underlying4 h10
  obtain ⟨b3, rfl⟩ := okCell_bool Tryz.underlying4 h11
  obtain ⟨ow, rfl⟩ := okCell_int Tryz.underlying3 h12
  obtain ⟨gr, rfl⟩ := okCell_int Tryz.underlying3 h13
  obtain ⟨fo, rfl⟩ := okCell_int Tryz.underlying3 h14
  obtain ⟨fg, rfl⟩ := okCell_int Tryz.underlying3 h15
  obtain ⟨fa, rfl⟩ := okCell_int Tryz.underlying3 h16
  obtain ⟨b4, rfl⟩ := okCell_bool Tryz.underlying4 h17
  have all : ∀ {κ : Inj} {p : Option Addr} {m c : Nat}, VR κ (.slice p m c) v18 → VR κ (.agg ⟨cellsC do_ name to d f r fm mn ow gr fo fg fa b0 b1 b2 b3 b4 p m c⟩) (.agg ⟨[.string do_, .int .i64 d, .int .i64 f, .string name, .string to, .int .i64 r, .int .i64 fm, .int .i64 mn, .bool b0, .bool b1, .bool b2, .bool b3, .int .i64 ow, .int .i64 gr, .int .i64 fo, .int .i64 fg, .int .i64 fa, .bool b4, v18]⟩) := by
    intro κ p m c hx
    refine .aggI (fun y hy => ?_) (.cons (.string _) (.cons (.int _ _) (.cons (.int _ _) (.cons (.string _) (.cons (.string _) (.cons (.int _ _) (.cons (.int _ _) (.cons (.int _ _) (.cons (.bool _) (.cons (.bool _) (.cons (.bool _) (.cons (.bool _) (.cons (.int _ _) (.cons (.int _ _) (.cons (.int _ _) (.cons (.int _ _) (.cons (.int _ _) (.cons (.bool _) (.cons hx .nil)))))))))))))))))))
    simp only [cellsC, List.mem_cons, List.not_mem_nil, or_false] at hy
    rcases hy with rfl | rfl | rfl | rfl | rfl | rfl | rfl | rfl | rfl | rfl | rfl | rfl | rfl | rfl | rfl | rfl | rfl | rfl | rfl <;> trivial
  rcases okCell_slice Tryz.underlying26 h18 with rfl | ⟨a, n, c, rfl, k1, k2, k3⟩
  · exact ⟨do_, name, to, d, f, r, fm, mn, ow, gr, fo, fg, fa, b0, b1, b2, b3, b4, none, 0, 0, ⟨0, 0, 0, 0⟩, hW, all .slN⟩
  · exact ⟨do_, name, to, d, f, r, fm, mn, ow, gr, fo, fg, fa, b0, b1, b2, b3, b4, some ⟨6, 0, none⟩, n, open_, ⟨a.block, a.off, a.off + c, 1⟩, k3, all (.dark k2 k1)⟩

set_option maxRecDepth 100000 in
/-- The call. -/
theorem clientNils_calls {W : World} (hW : W.ShapedOpen Tryz.prog) {r : Reach} {base : Nat} {v : Value} (n : Int) (s : ByteArray) (h : Value.okWide Tryz.prog W r base 28 v) : Calls Tryz.prog 3 #[.int .i64 n, v, .string s] W fun e w' => e = .returned (.bool true) ∧ Below W.heap.size W w' := by
  have hg : Tryz.prog.globals.size = 6 := by kernel_rfl
  have hsz : 6 ≤ W.heap.size := hg ▸ globs_size globsThere hW
  obtain ⟨do_, name, to, d, f, r, fm, mn, ow, gr, fo, fg, fa, b0, b1, b2, b3, b4, p, m, c, B, hB, hv⟩ := open_ask (by omega) h
  have hr : Rel (globInj1 6 B) W.heap.size (bare 7) W := bare_rel1 hsz hB rfl
  obtain ⟨k, hk⟩ := (clientNils_run do_ name to d f r fm mn ow gr fo fg fa b0 b1 b2 b3 b4 p m c n s).says
  exact calls_true (envOf_ok prims_ok) mixed named (glob_globs1 hg B) hr (.cons (.int .i64 n) (.cons hv (.cons (.string s) .nil))) hk

abbrev laidList := Rows.clientNilsRow.laid
set_option maxRecDepth 100000 in
theorem clientNils_lifted (os : Os) (started : os.Started) (H : Type) (enc : TypeId × Value → H) :
    ReturnsInHanded {} Tryz.checked os 3 .any (fun w args => (Rows.clientNilsSpec.pre enc Tryz.prog Tryz.f3 Rows.clientNilsRow.domain false w args ∧ laidMetH Tryz.prog laidList w) ∧ sizedMet enc Tryz.prog Tryz.f3 (OpenSpec.ofChange Rows.clientNilsSpec) false w args)
      (Rows.clientNilsSpec.post enc Tryz.prog Tryz.f3 false true false false) := by
  refine returnsInHanded_shaped (C := Tryz.checked) (X := fun w _ => laidMetH Tryz.prog laidList w) (fun _ _ _ hh h => h.of_heap hh) own started (by kernel_rfl) Tryz.func3
    (ChangeSpec.witness_shaped (enc := enc) (C := Tryz.checked) (os := os) (X := fun w _ => laidMetH Tryz.prog laidList w) false (World.laidAll Tryz.prog os laidList) #[.int .i64 0, .agg ⟨cellsC ByteArray.empty ByteArray.empty ByteArray.empty 0 0 0 0 0 0 0 0 0 0 false false false false false none 0 0⟩, .string ByteArray.empty] 6 (World.laidAll_os _ _ _)
      (World.shaped_of_ZipB (by kernel_rfl) (by kernel_rfl)) (by kernel_rfl) (by kernel_rfl) (by kernel_rfl)
      (by rw [MakeChecks.laidMetH_plain _ _ _ (by kernel_rfl)]; exact laidMet_laidAll _ (by kernel_rfl) (by kernel_rfl))) ?_
  intro W base args ds gs before hshape hval0 hW _ _ _
  have hval : ∀ (j : Nat) t v, Tryz.f3.params[j]? = some t → args[j]? = some v → Value.okWide Tryz.prog W .any base t v := hval0
  have hW' := hW
  obtain ⟨p, q, hA0, hV, rfl, hfz, hnd⟩ := hW
  have hA : DataW.TrodAll enc Tryz.prog W 0 (fun _ => true) true Tryz.f3.params.toList args.toList ds p := hA0
  have hlt := hA.lt
  rw [Tryz.params3] at hA hval
  obtain ⟨v0, v1, v2, d0, d1, d2, p0, p1, p2, rfl, rfl, rfl, h0, h1, h2⟩ := trodAll_three hA
  obtain ⟨rfl, rfl⟩ := trodVars_none hV
  obtain ⟨a0, rfl, rfl, rfl, w0⟩ := open_int Tryz.underlying3 (hval 0 3 v0 rfl rfl) h0
  obtain ⟨a1, rfl, rfl, rfl, y1⟩ := open_string Tryz.underlying9 (hval 2 9 v2 rfl rfl) h2
  have hc := hval 1 28 v1 rfl rfl
  clear hA0 hval0
  refine (clientNils_calls hshape a0 a1 hc).mono fun e W' ⟨he, bel⟩ => ?_
  subst he
  exact ⟨_, rfl, _, _, _, [], _, [], hW', trodAll_mk1 (shut_bool Tryz.underlying4 _), trodAll_mk3 (shut_int Tryz.underlying3 w0) (Below.trod clientNils_laidOut (by kernel_rfl) (of_decide_eq_true (by kernel_rfl)) h1 bel (fun x hx => hlt x (by simp [hx]))) (shut_string Tryz.underlying9 y1), rfl, bel.frame _, fun h => by cases h⟩

theorem clientNils_holds : Rows.ClientNilsSaid :=
  OpenClaim.holds_of_wide 3 Tryz.f3 rfl rfl rfl rfl rfl rfl rfl ⟨rfl, rfl, rfl, rfl, rfl⟩ rfl rfl rfl rfl rfl (by kernel_rfl) Tryz.func3 clientNils_facts
    (of_decide_eq_true (by kernel_rfl)) (by unfold Func.isWrapper; first | (rw [if_pos (by decide +kernel)]; kernel_rfl) | (rw [if_neg (by decide +kernel)]; exact ⟨rfl, rfl⟩))
    (fun os started H enc _ => clientNils_lifted os started H enc)

/-- The card. -/
theorem clientNils_card : Rows.ClientNilsCardSaid :=
  Claim7.holds_tied_plain_at .later [] [.data, .data, .data, .data, .pinned] true (true, "e5ccd4c53a4dbef48469004e48461df151cbf9f9795bfc82f2997c9c42379693") true
    clientNils_holds (fun _ h => by cases h) (by kernel_rfl) (fun _ h => by cases h) clientNils_row_tie rfl ⟨rfl, rfl⟩ (by kernel_rfl) rfl
    (fun f fn hf hfn => by
      obtain rfl : f = 3 := Option.some.inj ((show Tryz.prog.funcNamed "tithing/tithinglaw26.ClientNils" = some 3 by kernel_rfl).symm.trans hf) |>.symm
      obtain rfl : fn = Tryz.f3 := (Option.some.inj (Tryz.func3.symm.trans hfn)).symm
      exact ⟨clientNils_looks.symm, fun j t ht => by
        rw [Tryz.params3] at ht
        have hm : t ∈ [3, 28, 9] := by simpa using Array.mem_of_getElem? ht
        have hall : ([3, 28, 9].all fun u => !Tryz.prog.wantsStandIn u) = true := by kernel_rfl
        exact (show Tryz.prog.wantsStandIn t = false by simpa using List.all_eq_true.1 hall t hm)⟩)
    clientNils_goesBy
#print axioms clientNils_card
end Go.Proofs.YtfacpijihpkdcaaGreatDoor
