/-
  The text of a document's parts, as the program puts it.
-/
import Derived.Test.YtoinadgkjnbejaaDoorPgCat
import Derived.Test.YtoinadgkjnbejaaDoorPgTop
set_option linter.unusedVariables false
set_option linter.unusedSimpArgs false
namespace Go.Pg
theorem pagesLines_snoc : ∀ (ps : List (List Ln)) (k : Nat) (p : List Ln), pagesLines k (ps ++ [p]) = pagesLines k ps ++ (wPage ++ dec (k + ps.length + 1)) :: p
  | [], k, p => by simp [pagesLines]
  | q :: ps, k, p => by
    have := pagesLines_snoc ps (k + 1) p
    rw [List.cons_append, pagesLines, this, pagesLines, List.length_cons, show k + 1 + ps.length + 1 = k + (ps.length + 1) + 1 from by omega]
    simp
theorem pagesLines_take : ∀ (ps : List (List Ln)) (k i : Nat), (pagesLines k (ps.take i)).length ≤ (pagesLines k ps).length
  | [], k, i => by simp
  | q :: ps, k, 0 => by simp [pagesLines]
  | q :: ps, k, i + 1 => by
    have := pagesLines_take ps (k + 1) i
    rw [List.take_succ_cons, pagesLines, pagesLines]
    simp only [List.length_append, List.length_cons]
    omega
theorem flat_len0 (ps : List (List Ln)) : ps.length ≤ (pagesLines 0 ps).length := (Go.Ev.pagesLines_len ps 0).1
end Go.Pg
namespace Go.Ev
noncomputable section
open Go.Pg
structure Fits (d : Doc) : Prop where
  n : (docLines d).length ≤ 30000000
  x : ∀ x ∈ docLines d, x.length ≤ 1000000
theorem doc_fits {l : Ln} {d : Doc} (h : docR l = some d) (hl : l.length ≤ 100000) : Fits d := by
  unfold docR at h
  split at h
  · cases h
  · have e := parse_lines h
    have h1 := lns_len l
    have hs := lns_sh l
    rw [e] at hs h1
    exact ⟨by omega, fun x hx => by have := hs x hx; omega⟩
section
variable {E : Env} {f : FuncId} {s t u : St}
theorem texts4 {hi : Nat} {v : Value} {a b c d : Value} {A B C D : List Ln} (hv : Sl s hi 1 v [a, b, c, d]) (ha : Texts s hi a A) (hb : Texts s hi b B) (hc : Texts s hi c C) (hd : Texts s hi d D) :
    ∀ (i : Nat) (x : Value) (l : List Ln), [a, b, c, d][i]? = some x → [A, B, C, D][i]? = some l → Sl s hi 1 x (l.map strOf) := by
  intro i x l hx hl
  match i, hx, hl with
  | 0, hx, hl => cases hx; cases hl; exact ha
  | 1, hx, hl => cases hx; cases hl; exact hb
  | 2, hx, hl => cases hx; cases hl; exact hc
  | 3, hx, hl => cases hx; cases hl; exact hd
set_option maxHeartbeats 8000000 in
theorem format_run (hC : Codes E) (P : Prims E) (hf : Has E f Code.page_format) (G : Gl s) {hi : Nat} {cs : List Value} {d : Doc} (hd : DocV s hi cs d) (hhi : hi ≤ s.next) (ft : Fits d) : Cv E f [.agg ⟨cs⟩] s fun r t => r = strOf (textD d) ∧ Low s.next s t := by
  obtain ⟨h, p, g, tr, rfl, dh, dp, dg, dt⟩ := hd
  refine Cv_of hf.code ?_
  have h0 : (Tr.ofList (.e : Fr) 0 [.agg ⟨[strOf d.title, h, p, g, tr]⟩]).get 0 = some (.agg ⟨[strOf d.title, h, p, g, tr]⟩) := rfl
  generalize (Tr.ofList (.e : Fr) 0 [.agg ⟨[strOf d.title, h, p, g, tr]⟩]) = fr0 at h0
  unfold Code.page_format
  refine W_seq (W_ops (Wo_box (lo := s.next) (s0 := s) (z := [strOf d.title, h, p, g, tr]) (by simp only [simq, Int.reduceEq, Nat.reduceEqDiff, h0]; rfl) rfl rfl ((Low.self s).skip 2) (Nat.le_add_right _ _) (by rw [next_skip]; omega) fun s1 B1 n1 _ => Wo_all (by simp only [simq, Int.reduceEq, Nat.reduceEqDiff]; rfl) ?_))
  show W E _ _ _ _
  rw [Nat.add_zero] at B1
  rw [next_skip] at n1
  have R1 := B1.own
  have L1 : Low s.next s s1 := B1.low
  replace dh : Texts s1 s1.next h d.header := (dh.low L1 hhi).wide (show hi ≤ s1.next by omega)
  replace dp : Texts s1 s1.next p d.prologue := (dp.low L1 hhi).wide (show hi ≤ s1.next by omega)
  replace dg : Lists s1 s1.next g d.pages := (dg.low L1 hhi).wide (show hi ≤ s1.next by omega)
  replace dt : Texts s1 s1.next tr d.trailer := (dt.low L1 hhi).wide (show hi ≤ s1.next by omega)
  have hN := ft.n
  have e0 : docLines d = wFirst :: (d.header ++ wEndHeader :: (d.prologue ++ (pagesLines 0 d.pages ++ wTrailer :: (d.trailer ++ [wEof])))) := rfl
  have hNl := congrArg List.length e0
  simp only [List.length_cons, List.length_append, List.length_nil] at hNl
  have hpl := flat_len0 d.pages
  obtain ⟨hp_, hn_, hc_, rfl, hhn⟩ := dh.parts
  obtain ⟨pp, pn, pc, rfl, hpn⟩ := dp.parts
  have a1 : s1.cell ⟨s.next, 1, none⟩ = some (.slice hp_ hn_ hc_) := R1.cell 1
  have m1 := next_skip s1 9
  refine W_seq (W_opsM ?_)
  refine Wo_buildSlice (size := 1) (lo := s1.next) (n := 1) (cs := [strOf wFirst]) (by simp only [simq, Int.reduceEq, Nat.reduceEqDiff]; rfl) rfl (Nat.le_add_right _ _) (by omega) (by decide) ?_
  rintro s2 ⟨D2, -⟩ l2 hs2
  have L2 : Low s1.next s1 s2 := ((Low.self s1).skip 9).trans l2
  have n2 : s2.next = s1.next + 9 := by rw [hs2, St.next_set]; exact m1
  have a1' : s2.cell ⟨s.next, 1, none⟩ = some (.slice hp_ hn_ hc_) := (R1.low L2 (by omega)).cell 1
  refine Wo_run (l := [_, _]) (by simp only [simq, Int.reduceEq, Nat.reduceEqDiff, h0, a1']; rfl) ?_
  refine Wo_buildSlice (size := 1) (lo := s1.next + 1) (n := 1) (cs := [strOf wEndHeader]) (by simp only [simq, Int.reduceEq, Nat.reduceEqDiff]; rfl) rfl (by omega) (by omega) (by decide) ?_
  rintro s3 ⟨D3, -⟩ l3 hs3
  have n3 : s3.next = s1.next + 9 := by rw [hs3, St.next_set]; exact n2
  have L3 : Low s1.next s1 s3 := L2.trans (l3.weak (by omega))
  have a2 : s3.cell ⟨s.next, 2, none⟩ = some (.slice pp pn pc) := (R1.low L3 (by omega)).cell 2
  refine Wo_run (l := [_, _]) (by simp only [simq, Int.reduceEq, Nat.reduceEqDiff, h0, a2]; rfl) ?_
  refine Wo_buildSlice (size := 1) (lo := s1.next + 4) (n := 4) (cs := [.slice (some ⟨s1.next, 0, none⟩) 1 1, .slice hp_ hn_ hc_, .slice (some ⟨s1.next + 3, 0, none⟩) 1 1, .slice pp pn pc]) (by simp only [simq, Int.reduceEq, Nat.reduceEqDiff, Nat.add_zero]; rfl) rfl (by omega) (by omega) (by decide) ?_
  rintro s4 ⟨D4, -⟩ l4 hs4
  have n4 : s4.next = s1.next + 9 := by rw [hs4, St.next_set]; exact n3
  have L4 : Low s1.next s1 s4 := L3.trans (l4.weak (by omega))
  have D2' : Texts s4 s4.next (.slice (some ⟨s1.next, 0, none⟩) 1 1) [wFirst] := (((Sl.low D2 l3 (by omega)).low l4 (by omega))).wide (by omega)
  have D3' : Texts s4 s4.next (.slice (some ⟨s1.next + 3, 0, none⟩) 1 1) [wEndHeader] := ((Sl.low D3 l4 (by omega))).wide (by omega)
  have dh4 := (dh.low L4 (Nat.le_refl _)).wide (show s1.next ≤ s4.next by omega)
  have dp4 := (dp.low L4 (Nat.le_refl _)).wide (show s1.next ≤ s4.next by omega)
  have D4' := D4.wide (show s1.next + 6 + 1 ≤ s4.next by omega)
  have hflat : [[wFirst], d.header, [wEndHeader], d.prologue].flatten = wFirst :: (d.header ++ wEndHeader :: d.prologue) := by simp
  refine Wo_call hC.slices_Concat_string_string.prim (args := [.slice (some ⟨s1.next + 6, 0, none⟩) 4 4]) (by simp only [simq, Int.reduceEq, Nat.reduceEqDiff]; try rfl) ((ConcatS_run hC hC.slices_Concat_string_string (s := s4) (Nat.le_refl _) D4' (ls := [[wFirst], d.header, [wEndHeader], d.prologue]) rfl (texts4 D4' D2' dh4 D3' dp4) (by rw [hflat]; simp only [List.length_cons, List.length_append]; omega) (by simp)).mono ?_)
  rintro v s5 ⟨g5, l5⟩
  rw [hflat] at g5
  have L5 : Low s1.next s1 s5 := L4.trans (l5.weak (by omega))
  have hl5 := l5.2.1
  refine Wo_all (by simp only [simq, Int.reduceEq, Nat.reduceEqDiff]; rfl) ?_
  show W E _ _ _ _
  obtain ⟨gp, gc, rfl⟩ := dg.parts
  have a3 : s5.cell ⟨s.next, 3, none⟩ = some (.slice gp d.pages.length gc) := (R1.low L5 (by omega)).cell 3
  refine W_gen (T := [(1, ptr s.next 0), (3, v)]) (all_cons (by simp only [simq, Int.reduceEq, Nat.reduceEqDiff]) (all_cons (by simp only [simq, Int.reduceEq, Nat.reduceEqDiff]) all_nil)) fun fr2 gf => ?_
  have k1 := gf _ (.head _)
  have k3 := gf _ (.tail _ (.head _))
  simp only at k1 k3
  clear gf h0
  refine W_seq (W_seq (W_region (by simp only [simq, Int.reduceEq, Nat.reduceEqDiff, k1, a3]; rfl) (W_block ?_)))
  have LA : Low s.next s s5 := L1.trans (L5.weak L1.2.1)
  have G5 := G.next LA
  have R5 := R1.low L5 (by omega)
  have hpt := pagesLines_take d.pages 0
  have dg5 : Lists s5 s1.next (.slice gp d.pages.length gc) d.pages := dg.low L5 (Nat.le_refl _)
  have dt5 : Texts s5 s1.next tr d.trailer := dt.low L5 (Nat.le_refl _)
  unfold Code.page_format_l0
  refine W_for (n := d.pages.length) (fun i fr t => Low s4.next s5 t ∧ fr.get 1 = some (ptr s.next 0) ∧ fr.get 15 = some (.slice gp d.pages.length gc) ∧ ∃ ov, fr.get 3 = some ov ∧ Gr t s4.next 1 ov (((wFirst :: (d.header ++ wEndHeader :: d.prologue)) ++ pagesLines 0 (d.pages.take i)).map strOf)) (by omega) (by decide) ?_ ?_ ?_ 0 (Nat.zero_le _) ⟨Low.refl hl5, by simp only [simq, Int.reduceEq, Nat.reduceEqDiff, k1], by simp only [simq, Int.reduceEq, Nat.reduceEqDiff], v, by simp only [simq, Int.reduceEq, Nat.reduceEqDiff, k3], by simpa [pagesLines] using g5⟩ (by simp only [simq, Int.reduceEq, Nat.reduceEqDiff]; rfl) (by simp only [simq, Int.reduceEq, Nat.reduceEqDiff]; rfl)
  · rintro i fr t x v hx ⟨e0, e1, e2, ov, e4, e5⟩
    refine ⟨e0, ?_, ?_, ov, ?_, e5⟩ <;> rcases hx with rfl | rfl | rfl <;> simp only [simq, Int.reduceEq, Nat.reduceEqDiff, e1, e2, e4]
  · rintro i fr t hlt ⟨L, k1, k15, ov, k3, hgr⟩ k17 k16
    have hL := L.2.1
    have ls1 : Low s1.next s5 t := ⟨L5.le, L.2.1, fun b hb => L.2.2 b (by omega)⟩
    obtain ⟨a, w, rfl, hca, ha⟩ := (dg5.low ls1 (Nat.le_refl _)).at.2 i hlt
    have hb1 : Nat.blt i d.pages.length = true := by rw [Nat.blt_eq]; exact hlt
    have htk : d.pages.take (i + 1) = d.pages.take i ++ [d.pages[i]] := List.take_succ_eq_append_getElem hlt
    have hsn := pagesLines_snoc (d.pages.take i) 0 d.pages[i]
    rw [← htk, show (d.pages.take i).length = i from by simp; omega, Nat.zero_add] at hsn
    have hp1 := hpt (i + 1)
    have hp0 := hpt i
    have hsnl := congrArg List.length hsn
    generalize d.pages[i] = pg at *
    simp only [List.length_append, List.length_cons] at hsnl
    refine W_seq (W_region (by simp only [simq, Int.reduceEq, Nat.reduceEqDiff, k15, k17, hb1, hca]; rfl) ?_)
    have hito := fun u (hu : Gl u) => pItoa_run (s := u) (g := 0) (n := i + 1) hu.tab (by omega)
    have hdl := dec_len (i + 1)
    have hadd : binOp .add (strOf [37, 37, 80, 97, 103, 101, 58, 32]) (strOf (dec (i + 1))) = some (strOf (wPage ++ dec (i + 1))) := bin_addS _ _ (by simp; omega)
    have w1 : wr .i64 (((i : Nat) : Int) + 1) = ((i + 1 : Nat) : Int) := by rw [wr_i64 (by omega) (by omega)]; omega
    have Gt := G5.low L (by have := G5.le; have := G.le; omega)
    have hi0 := hito (t.skip 8) (Gt.skip 8)
    have m2 := next_skip t 8
    refine W_seq (W_opsM (Wo_run (l := [_, _, _]) (by simp only [simq, Int.reduceEq, Nat.reduceEqDiff, k3, k17, w1]; rfl) ?_))
    refine Wo_run (l := [_, _]) (by simp only [simq, Int.reduceEq, Nat.reduceEqDiff, pc_some P.itoa, hi0, hadd]; rfl) ?_
    refine Wo_buildSlice (size := 1) (lo := t.next) (n := 1) (cs := [strOf (wPage ++ dec (i + 1))]) (by simp only [simq, Int.reduceEq, Nat.reduceEqDiff]; rfl) rfl (Nat.le_add_right _ _) (by omega) (by decide) ?_
    rintro t2 ⟨D2, -⟩ l2 hs2
    have L2 : Low t.next t t2 := ((Low.self t).skip 8).trans l2
    refine Wo_append (lo := s4.next) (by simp only [simq, Int.reduceEq, Nat.reduceEqDiff]) (by simp only [simq, Int.reduceEq, Nat.reduceEqDiff]) (hgr.low L2 (Nat.le_refl _)) (Nat.le_trans (Nat.le_trans hl5 hL) L2.2.1) D2.feed (by decide) (by simp only [List.length_map, List.length_append, List.length_cons, List.length_nil]; unfold room; omega) ?_
    rintro v3 t3 g3 L3 -
    refine Wo_all (by simp only [simq, Int.reduceEq, Nat.reduceEqDiff]; rfl) ?_
    show W E _ _ _ _
    have L23 : Low s4.next t t3 := (L2.weak (Nat.le_trans hl5 hL)).trans L3
    have ha3 := ha.low L23 (by omega)
    refine W_ops (Wo_run (l := [_, _]) (by simp only [simq, Int.reduceEq, Nat.reduceEqDiff]; rfl) ?_)
    refine Wo_append (lo := s4.next) (by simp only [simq, Int.reduceEq, Nat.reduceEqDiff]) (by simp only [simq, Int.reduceEq, Nat.reduceEqDiff]) g3 L3.le (Sl.feed ha3) (by decide) (by simp only [List.length_map, List.length_append, List.length_cons, List.length_nil]; unfold room; omega) ?_
    rintro v4 t4 g4 L4 -
    refine Wo_all (by simp only [simq, Int.reduceEq, Nat.reduceEqDiff]; rfl) ?_
    refine ⟨⟨(L.trans L23).trans L4, by simp only [simq, Int.reduceEq, Nat.reduceEqDiff, k1], by simp only [simq, Int.reduceEq, Nat.reduceEqDiff, k15], v4, by simp only [simq, Int.reduceEq, Nat.reduceEqDiff], ?_⟩, by simp only [simq, Int.reduceEq, Nat.reduceEqDiff, k17], by simp only [simq, Int.reduceEq, Nat.reduceEqDiff, k16]⟩
    rw [hsn]
    simpa using g4
  · rintro fr t ⟨L, k1, k15, ov, k3, hgr⟩
    rw [List.take_length] at hgr
    show W E _ _ _ _
    have hL := L.2.1
    have m2 := next_skip t 4
    refine W_seq (W_ops (Wo_run (l := [_]) (by simp only [simq, Int.reduceEq, Nat.reduceEqDiff, k3]; rfl) ?_))
    refine Wo_buildSlice (size := 1) (lo := t.next) (n := 1) (cs := [strOf wTrailer]) (by simp only [simq, Int.reduceEq, Nat.reduceEqDiff]; rfl) rfl (Nat.le_add_right _ _) (by omega) (by decide) ?_
    rintro t2 ⟨D2, -⟩ l2 hs2
    have L2 : Low t.next t t2 := ((Low.self t).skip 4).trans l2
    refine Wo_append (lo := s4.next) (by simp only [simq, Int.reduceEq, Nat.reduceEqDiff]) (by simp only [simq, Int.reduceEq, Nat.reduceEqDiff]) (hgr.low L2 (Nat.le_refl _)) (Nat.le_trans (Nat.le_trans hl5 hL) L2.2.1) D2.feed (by decide) (by simp only [List.length_map, List.length_append, List.length_cons, List.length_nil]; unfold room; omega) ?_
    rintro v3 t3 g3 L3 -
    refine Wo_all (by simp only [simq, Int.reduceEq, Nat.reduceEqDiff]; rfl) ?_
    show W E _ _ _ _
    have L03 : Low s4.next s5 t3 := (L.trans (L2.weak (Nat.le_trans hl5 hL))).trans L3
    have hL03 := L03.2.1
    have m3 := next_skip t3 8
    have a4 : (t3.skip 8).cell ⟨s.next, 4, none⟩ = some tr := ((R5.low L03 (by omega)).skip 8).cell 4
    refine W_seq (W_opsM (Wo_run (l := [_, _, _]) (by simp only [simq, Int.reduceEq, Nat.reduceEqDiff, k1, a4]; rfl) ?_))
    have L3s : Low t3.next t3 (t3.skip 8) := (Low.self t3).skip 8
    have dt3 : Texts (t3.skip 8) s1.next tr d.trailer := (dt5.low L03 (by omega)).low L3s (by omega)
    refine Wo_appendN (lo := s4.next) (by simp only [simq, Int.reduceEq, Nat.reduceEqDiff]) (by simp only [simq, Int.reduceEq, Nat.reduceEqDiff]) (g3.low L3s (Nat.le_refl _)) (by omega) (Sl.feed dt3) (by decide) (by simp only [List.length_map, List.length_append, List.length_cons, List.length_nil]; unfold room; omega) ?_
    rintro v4 t4 g4 L4 hv4
    have hL4 := L4.2.1
    refine Wo_buildSlice (size := 1) (lo := t3.next) (n := 1) (cs := [strOf wEof]) (by simp only [simq, Int.reduceEq, Nat.reduceEqDiff]; rfl) rfl (by omega) (by omega) (by decide) ?_
    rintro t5 ⟨D5, -⟩ l5' hs5
    have g4' : Gr t5 s4.next 1 v4 (((wFirst :: (d.header ++ wEndHeader :: d.prologue) ++ pagesLines 0 d.pages).map strOf ++ [strOf wTrailer]) ++ d.trailer.map strOf) := by
      rw [hs5]
      refine g4.at_ne _ fun q n c e => ?_
      rcases hv4 with h4 | ⟨k', h4⟩
      · rw [h4] at e
        have := g3.block_lt _ _ _ e
        omega
      · rw [h4] at e
        cases e
        show (t3.skip 8).next ≠ _
        omega
    refine Wo_append (lo := s4.next) (by simp only [simq, Int.reduceEq, Nat.reduceEqDiff]) (by simp only [simq, Int.reduceEq, Nat.reduceEqDiff]) g4' (by rw [hs5, St.next_set]; exact L4.le) D5.feed (by decide) (by simp only [List.length_map, List.length_append, List.length_cons, List.length_nil]; unfold room; omega) ?_
    rintro v6 t6 g6 L6 -
    have hfin : (((wFirst :: (d.header ++ wEndHeader :: d.prologue) ++ pagesLines 0 d.pages).map strOf ++ [strOf wTrailer]) ++ d.trailer.map strOf) ++ [strOf wEof] = (docLines d).map strOf := by
      rw [e0]; simp
    rw [hfin] at g6
    refine Wo_call hC.page_text.prim (args := [v6]) (by simp only [simq, Int.reduceEq, Nat.reduceEqDiff]; try rfl) ((text_run hC P hC.page_text (s := t6) (Nat.le_refl _) g6.sl hN ft.x).mono ?_)
    rintro _ t7 ⟨rfl, l7⟩
    refine Wo_all (by simp only [simq, Int.reduceEq, Nat.reduceEqDiff]; rfl) ?_
    show W E _ _ _ _
    refine W_ret ⟨rfl, _, res_tmp res_nil, by simp only [simq, Int.reduceEq, Nat.reduceEqDiff, tupled]; rfl, ?_⟩
    have Lz : Low s4.next s5 t4 := (L03.trans (L3s.weak (by omega))).trans L4
    have L5z : Low s4.next t4 t5 := by
      rw [hs5]
      exact (Low.refl L4.le).set (by omega) _
    have L67 : Low s4.next t5 t7 := L6.trans (l7.weak L6.le)
    exact LA.trans (((Lz.trans L5z).trans L67).weak (by have := L1.2.1; have := L4; omega))
end
end
end Go.Ev
