/-
  A document copied; what Parse returns.
-/
import Derived.Test.YtoinadgkjnbejaaDoorPgParse2
import Derived.Test.YtoinadgkjnbejaaDoorPgRefMain
import Derived.Test.YtoinadgkjnbejaaDoorPgOwn
set_option linter.unusedVariables false
set_option linter.unusedSimpArgs false
namespace Go.Ev
noncomputable section
open Go.Pg
theorem pagesLines_len : ∀ (ps : List (List Ln)) (k : Nat), ps.length ≤ (pagesLines k ps).length ∧ ∀ p ∈ ps, p.length ≤ (pagesLines k ps).length
  | [], k => ⟨Nat.le_refl _, by simp⟩
  | p :: ps, k => by
    obtain ⟨h1, h2⟩ := pagesLines_len ps (k + 1)
    rw [pagesLines]
    refine ⟨by simp; omega, fun q hq => ?_⟩
    rcases List.mem_cons.1 hq with rfl | hq
    · simp; omega
    · have := h2 q hq; simp; omega
structure Small (d : Doc) : Prop where
  h : d.header.length ≤ 100000
  p : d.prologue.length ≤ 100000
  g : d.pages.length ≤ 100000
  gp : ∀ p ∈ d.pages, p.length ≤ 100000
  t : d.trailer.length ≤ 100000
theorem doc_small {l : Ln} {d : Doc} (h : docR l = some d) (hl : l.length ≤ 100000) : Small d := by
  unfold docR at h
  split at h
  · cases h
  · have e := parse_lines h
    have h1 := lns_len l
    have h2 := congrArg List.length e
    unfold docLines at h2
    simp only [List.length_cons, List.length_append, List.length_nil] at h2
    obtain ⟨g1, g2⟩ := pagesLines_len d.pages 0
    exact ⟨by omega, by omega, by omega, fun p hp => by have := g2 p hp; omega, by omega⟩
section
variable {E : Env} {f : FuncId} {s t u : St}
theorem Mid.next {lo hi : Nat} {x : Value} {xs : List Value} (h : Mid s lo hi 1 x xs) (k : Low s.next s t) (hh : hi ≤ s.next) : Mid t lo hi 1 x xs := h.low k hh
set_option maxHeartbeats 8000000 in
theorem clone_own (hC : Codes E) (hf : Has E f Code.page_clone) {hi : Nat} {cs : List Value} {d : Doc} (hd : DocV s hi cs d) (hhi : hi ≤ s.next) (hsm : Small d) : Cv E f [.agg ⟨cs⟩] s fun r t => Low s.next s t ∧ ∃ cs', cs'.length = 5 ∧ r = .agg ⟨cs'⟩ ∧ DocO t s.next t.next cs' d := by
  obtain ⟨h, p, g, tr, rfl, dh, dp, dg, dt⟩ := hd
  refine Cv_of hf.code ?_
  have h0 : (Tr.ofList (.e : Fr) 0 [.agg ⟨[strOf d.title, h, p, g, tr]⟩]).get 0 = some (.agg ⟨[strOf d.title, h, p, g, tr]⟩) := rfl
  generalize (Tr.ofList (.e : Fr) 0 [.agg ⟨[strOf d.title, h, p, g, tr]⟩]) = fr0 at h0
  unfold Code.page_clone
  refine W_seq (W_ops (Wo_box (lo := s.next) (s0 := s) (z := [strOf d.title, h, p, g, tr]) (by simp only [simq, Int.reduceEq, Nat.reduceEqDiff, h0]; rfl) rfl rfl ((Low.self s).skip 2) (Nat.le_add_right _ _) (by rw [next_skip]; omega) fun s1 B1 n1 _ => ?_))
  rw [Nat.add_zero] at B1
  rw [next_skip] at n1
  refine Wo_alloc (lo := s.next) (s0 := s) B1.low (by omega) (by omega) fun s2 B2 n2 f2 => Wo_nil ?_
  show W E _ _ _ _
  have RB : Row s2 s.next [strOf d.title, h, p, g, tr] := by
    obtain ⟨es, e⟩ := B1.at_
    exact ⟨es, by rw [f2 _ (by omega)]; exact e⟩
  have RR : Row s2 (s.next + 1) [strOf [], .slice none 0 0, .slice none 0 0, .slice none 0 0, .slice none 0 0] := B2.own
  have L2 : Low s.next s s2 := B2.low
  have b0 : s2.cell ⟨s.next, 0, none⟩ = some (strOf d.title) := RB.cell 0
  have b1 : s2.cell ⟨s.next, 1, none⟩ = some h := RB.cell 1
  have b2 : s2.cell ⟨s.next, 2, none⟩ = some p := RB.cell 2
  have b4 : s2.cell ⟨s.next, 4, none⟩ = some tr := RB.cell 4
  have sm : ∀ {v : Value} {l : List Ln}, Texts s hi v l → same v v = true := fun {v l} hv => by
    obtain ⟨q, n, c, rfl, _⟩ := hv.parts
    exact same_slice hv.spot
  have K0 : Low s2.next s2 (s2.skip 14) := (Low.self s2).skip 14
  have hk0 := next_skip s2 14
  refine W_seq (W_ops (Wo_run (by simp only [simq, Int.reduceEq, Nat.reduceEqDiff, b0, b1, b2, b4]; rfl) (Wo_callA hC.slices_Clone_string_string.prim (args := [h]) (by simp only [simq, Int.reduceEq, Nat.reduceEqDiff]; try rfl) ((CloneS_own hC.slices_Clone_string_string (hi := hi) (by omega) ((dh.low L2 hhi).low K0 (by omega)) (by have := hsm.h; omega)).mono ?_))))
  rintro hh s3 ⟨l3, g3, w3⟩
  have K3 : Low s2.next s2 s3 := K0.trans (l3.weak (by omega))
  have RB3 := RB.low K3 (by omega)
  have e0 : s3.cell ⟨s.next, 0, none⟩ = some (strOf d.title) := RB3.cell 0
  have e2 : s3.cell ⟨s.next, 2, none⟩ = some p := RB3.cell 2
  have e4 : s3.cell ⟨s.next, 4, none⟩ = some tr := RB3.cell 4
  refine ⟨again_load1 (by simp only [simq, Int.reduceEq, Nat.reduceEqDiff]) e0 (by simp only [simq, Int.reduceEq, Nat.reduceEqDiff]) (same_str _) (again_load1 (by simp only [simq, Int.reduceEq, Nat.reduceEqDiff]) e2 (by simp only [simq, Int.reduceEq, Nat.reduceEqDiff]) (sm dp) (again_load1 (by simp only [simq, Int.reduceEq, Nat.reduceEqDiff]) e4 (by simp only [simq, Int.reduceEq, Nat.reduceEqDiff]) (sm dt) again_nil)), ?_⟩
  refine Wo_callA hC.slices_Clone_string_string.prim (args := [p]) (by simp only [simq, Int.reduceEq, Nat.reduceEqDiff]; try rfl) ((CloneS_run hC.slices_Clone_string_string (hi := hi) (by have := K3.2.1; have := L2.2.1; omega) ((dp.low L2 hhi).low K3 (by omega)) (by have := hsm.p; omega)).mono ?_)
  rintro pp s4 ⟨l4, g4⟩
  have K4 : Low s2.next s2 s4 := K3.trans (l4.weak K3.2.1)
  have RB4 := RB.low K4 (by omega)
  have e0 : s4.cell ⟨s.next, 0, none⟩ = some (strOf d.title) := RB4.cell 0
  have e4 : s4.cell ⟨s.next, 4, none⟩ = some tr := RB4.cell 4
  refine ⟨again_load1 (by simp only [simq, Int.reduceEq, Nat.reduceEqDiff]) e0 (by simp only [simq, Int.reduceEq, Nat.reduceEqDiff]) (same_str _) (again_load1 (by simp only [simq, Int.reduceEq, Nat.reduceEqDiff]) e4 (by simp only [simq, Int.reduceEq, Nat.reduceEqDiff]) (sm dt) again_nil), ?_⟩
  refine Wo_callA hC.slices_Clone_string_string.prim (args := [tr]) (by simp only [simq, Int.reduceEq, Nat.reduceEqDiff]; try rfl) ((CloneS_run hC.slices_Clone_string_string (hi := hi) (by have := K4.2.1; have := L2.2.1; omega) ((dt.low L2 hhi).low K4 (by omega)) (by have := hsm.t; omega)).mono ?_)
  rintro tt s5 ⟨l5, g5⟩
  have K5 : Low s2.next s2 s5 := K4.trans (l5.weak K4.2.1)
  have RB5 := RB.low K5 (by omega)
  have e0 : s5.cell ⟨s.next, 0, none⟩ = some (strOf d.title) := RB5.cell 0
  refine ⟨again_load1 (by simp only [simq, Int.reduceEq, Nat.reduceEqDiff]) e0 (by simp only [simq, Int.reduceEq, Nat.reduceEqDiff]) (same_str _) again_nil, ?_⟩
  have hn3 := l3.2.1
  have hn4 := l4.2.1
  have hn5 := l5.2.1
  have g3' : Mid s5 (s2.next + 14) s3.next 1 hh (d.header.map strOf) := ((g3.mid.low l4 (Nat.le_refl _)).low l5 hn4).weak (by omega)
  have g4' : Mid s5 s3.next s4.next 1 pp (d.prologue.map strOf) := g4.mid.low l5 (Nat.le_refl _)
  have g5' : Mid s5 s3.next s5.next 1 tt (d.trailer.map strOf) := g5.mid.weak (by omega)
  have w5 : Wri s5 hh (d.header.map strOf) := w3.keep g3.mid fun c c1 c2 => (l5.2.2 c (by omega)).trans (l4.2.2 c c2)
  obtain ⟨qh, nh, ch, rfl, -⟩ := g3'.1.parts
  obtain ⟨qp, np, cp, rfl, -⟩ := g4'.1.parts
  obtain ⟨qt, nt, ct, rfl, -⟩ := g5'.1.parts
  refine Wo_build (l := [strOf d.title, .slice qh nh ch, .slice qp np cp, .slice none 0 0, .slice qt nt ct]) (by simp only [simq, Int.reduceEq, Nat.reduceEqDiff]; rfl) ?_
  refine Wo_alloc (lo := s2.next) (s0 := s2) K5 (by omega) (by omega) fun s6 B6 n6 f6 => ?_
  have K6 : But (s2.next + 12) s5 s6 := ⟨Nat.le_of_eq n6.symm, fun b _ hb => f6 b hb⟩
  obtain ⟨s7, p7, R7, n7, f7⟩ := Row.put B6.at_ (o := 0) (vs := [strOf d.title, .slice qh nh ch, .slice qp np cp, .slice none 0 0, .slice qt nt ct]) (by simp)
  have K7 : But (s2.next + 12) s6 s7 := but_put n7 f7
  have hst : storable (.agg ⟨[strOf d.title, .slice qh nh ch, .slice qp np cp, .slice none 0 0, .slice qt nt ct]⟩) = true := rfl
  have hl7 : Nat.beq (lenL [strOf d.title, .slice qh nh ch, .slice qp np cp, .slice none 0 0, .slice qt nt ct]) 5 = true := rfl
  refine Wo_all (by simp only [simq, Int.reduceEq, Nat.reduceEqDiff, hst, vcells_agg, hl7, p7]; rfl) ?_
  show W E _ _ _ _
  have R7 : Row s7 (s2.next + 12) [strOf d.title, .slice qh nh ch, .slice qp np cp, .slice none 0 0, .slice qt nt ct] := R7
  have keep7 : ∀ c, c < s5.next → c ≠ s2.next + 12 → s7.get c = s5.get c := fun c hc hne => (f7 c hne).trans (f6 c hne)
  have RB7 : Row s7 s.next [strOf d.title, h, p, g, tr] := by
    obtain ⟨es, e⟩ := RB5
    exact ⟨es, (keep7 _ (by omega) (by omega)).trans e⟩
  have RR7 : Row s7 (s.next + 1) [strOf [], .slice none 0 0, .slice none 0 0, .slice none 0 0, .slice none 0 0] := by
    obtain ⟨es, e⟩ := RR.low K5 (by omega)
    exact ⟨es, (keep7 _ (by omega) (by omega)).trans e⟩
  have L7 : Low s.next s s7 := by
    have h1 := L2.trans (K5.weak L2.2.1)
    refine ⟨Nat.le_refl _, by omega, fun c hc => ?_⟩
    rw [keep7 c (by omega) (by omega)]
    exact h1.2.2 c hc
  have w7 := w5.keep (t := s7) g3' fun c h1 h2 => keep7 c (by omega) (by omega)
  have g37 := g3'.keep (t := s7) fun c h1 h2 => keep7 c (by omega) (by omega)
  have g47 := (g4'.keep (t := s7) fun c h1 h2 => keep7 c (by omega) (by omega)).wide (show s4.next ≤ s7.next by omega)
  have g57 := (g5'.keep (t := s7) fun c h1 h2 => keep7 c (by omega) (by omega)).wide (show s5.next ≤ s7.next by omega)
  have hM1 : s2.next + 14 ≤ s3.next := by have := K0.2.1; omega
  have hM2 : s3.next ≤ s7.next := by omega
  generalize hd3 : s2.next + 12 = d3 at *
  have hd3n : d3 < s7.next := by omega
  have hd3s : s.next + 1 < d3 := by omega
  have hmid : d3 + 1 ≤ s2.next + 14 := by omega
  have g37 := g37.weak hmid
  clear g3 g4 g5 g3' g4' g5' RB3 RB4 RB5 RB RR B1 B2 K0 K3 K4 K5 K6 K7 b0 b1 b2 b4 e0 e2 e4 keep7 f6 f7 f2 l3 l4 l5 B6
  refine W_gen (T := [(1, ptr s.next 0), (2, ptr (s.next + 1) 0), (3, ptr d3 0)]) (all_cons (by simp only [simq, Int.reduceEq, Nat.reduceEqDiff]) (all_cons (by simp only [simq, Int.reduceEq, Nat.reduceEqDiff]) (all_cons (by simp only [simq, Int.reduceEq, Nat.reduceEqDiff]) all_nil))) fun fr7 gf => ?_
  clear h0
  have k1 := gf _ (.head _)
  have k2 := gf _ (.tail _ (.head _))
  have k3 := gf _ (.tail _ (.tail _ (.head _)))
  simp only at k1 k2 k3
  clear gf
  obtain ⟨vs, v1, v2, v3⟩ := dg
  obtain ⟨gp, gn, gc, rfl, hgn⟩ := v1.parts
  have hgn' : gn = d.pages.length := by omega
  subst hgn'
  have c3 : s7.cell ⟨s.next, 3, none⟩ = some (.slice gp d.pages.length gc) := RB7.cell 3
  have hfew := hsm.g
  refine W_seq (W_seq (W_region (by simp only [simq, Int.reduceEq, Nat.reduceEqDiff, k1, c3]; rfl) (W_block ?_)))
  unfold Code.page_clone_l0
  refine W_for (n := d.pages.length) (fun i fr t => Low s.next s t ∧ Row t (s.next + 1) [strOf [], .slice none 0 0, .slice none 0 0, .slice none 0 0, .slice none 0 0] ∧ s7.next ≤ t.next ∧ (Mid t (d3 + 1) s3.next 1 (.slice qh nh ch) (d.header.map strOf) ∧ Wri t (.slice qh nh ch) (d.header.map strOf)) ∧ Mid t s3.next s7.next 1 (.slice qp np cp) (d.prologue.map strOf) ∧ Mid t s3.next s7.next 1 (.slice qt nt ct) (d.trailer.map strOf) ∧ ∃ gg H, Row t d3 [strOf d.title, .slice qh nh ch, .slice qp np cp, gg, .slice qt nt ct] ∧ Grows t s7.next H gg (d.pages.take i) ∧ (∀ b k, gg = sl b k → b < t.next) ∧ fr.get 2 = some (ptr (s.next + 1) 0) ∧ fr.get 3 = some (ptr d3 0) ∧ fr.get 19 = some (.slice gp d.pages.length gc)) (by omega) (by decide) ?_ ?_ ?_ 0 (Nat.zero_le _) ⟨L7, RR7, Nat.le_refl _, ⟨g37, w7⟩, g47, g57, .slice none 0 0, s7.next, R7, Grows.nil (Nat.le_refl _), (fun b k e => by cases e), by simp only [simq, Int.reduceEq, Nat.reduceEqDiff, k2], by simp only [simq, Int.reduceEq, Nat.reduceEqDiff, k3], by simp only [simq, Int.reduceEq, Nat.reduceEqDiff]⟩ (by simp only [simq, Int.reduceEq, Nat.reduceEqDiff]; rfl) (by simp only [simq, Int.reduceEq, Nat.reduceEqDiff]; rfl)
  · rintro i fr t x v hx ⟨e0, e1, e2, e3, e4, e5, gg, H, e6, e7, e8, e9, e10, e11⟩
    refine ⟨e0, e1, e2, e3, e4, e5, gg, H, e6, e7, e8, ?_, ?_, ?_⟩ <;> rcases hx with rfl | rfl | rfl <;> simp only [simq, Int.reduceEq, Nat.reduceEqDiff, e9, e10, e11]
  · rintro i fr t hlt ⟨L, rr, hle, mh, mp, mt, gg, H, rd, G, gb, k2, k3, k19⟩ h21 h20
    have hL := L.2.1
    have v1t := v1.low L hhi
    obtain ⟨a, rfl, hcell⟩ := v1t.cell (i := i) (by omega)
    have hiv : i < vs.length := by omega
    rw [List.getElem?_eq_getElem hiv] at hcell
    have hpg := v3 i vs[i] d.pages[i] (List.getElem?_eq_getElem hiv) (List.getElem?_eq_getElem hlt)
    have hpgs := hsm.gp _ (List.getElem_mem hlt)
    generalize vs[i] = w at hcell hpg
    have htake : d.pages.take (i + 1) = d.pages.take i ++ [d.pages[i]] := List.take_succ_eq_append_getElem hlt
    generalize d.pages[i] = pg at *
    have hbl : Nat.blt i d.pages.length = true := by rw [Nat.blt_eq]; exact hlt
    refine W_seq (W_region (by simp only [simq, Int.reduceEq, Nat.reduceEqDiff, k19, h21, hbl, hcell]; rfl) ?_)
    have c3 : t.cell ⟨d3, 3, none⟩ = some gg := rd.cell 3
    have hK := next_skip t 8
    have K0 : Low t.next t (t.skip 8) := (Low.self t).skip 8
    refine W_ops (Wo_run (by simp only [simq, Int.reduceEq, Nat.reduceEqDiff, k3, c3]; rfl) (Wo_callA hC.slices_Clone_string_string.prim (args := [w]) (by simp only [simq, Int.reduceEq, Nat.reduceEqDiff]; try rfl) ((CloneS_run hC.slices_Clone_string_string (hi := hi) (by omega) ((hpg.low L hhi).low K0 (by omega)) (by omega)).mono ?_)))
    rintro w9 t3 ⟨l3, g9⟩
    have hl3 := l3.2.1
    have K3 : Low t.next t t3 := K0.trans (l3.weak (by omega))
    have rd3 := rd.low K3 (by omega)
    have c3' : t3.cell ⟨d3, 3, none⟩ = some gg := rd3.cell 3
    have hgg : same gg gg = true := by
      rcases G.at_ with e | ⟨b, k, e, _⟩
      · rw [e]; exact same_slice fun a e => by cases e
      · rw [e]; exact same_slice fun a e => by cases e; rfl
    refine ⟨again_load1 (by simp only [simq, Int.reduceEq, Nat.reduceEqDiff]) c3' (by simp only [simq, Int.reduceEq, Nat.reduceEqDiff]) hgg again_nil, ?_⟩
    obtain ⟨q9, n9, c9, rfl, -⟩ := g9.sl.parts
    refine Wo_buildSlice (size := 1) (lo := t.next) (n := 1) (cs := [.slice q9 n9 c9]) (by simp only [simq, Int.reduceEq, Nat.reduceEqDiff]; rfl) rfl (by omega) (by omega) (by decide) ?_
    rintro s4 ⟨S4, -⟩ l4 hs4
    have K4 : Low t.next t s4 := K3.trans l4
    have n4 : s4.next = t3.next := by rw [hs4, St.next_set]
    have B4 : But (t.next + 4) t3 s4 := by rw [hs4]; exact but_put (St.next_set _ _ _) fun b hb => St.get_set_ne _ _ (Ne.symm hb)
    have m9 : Mid s4 (t.next + 8) s4.next 1 (.slice q9 n9 c9) (pg.map strOf) := by
      have := (g9.mid.but B4 (Nat.le_refl _) (.inl (by omega)))
      rw [← n4] at this
      exact this.weak (by omega)
    obtain ⟨g', s5, s6, e5, p6, R6, G6, n6, gb6, f6, x6, y6, z6⟩ := (G.two (K4.two (a := d3) (d := d3)) (by omega) (by omega)).put (o := 3) (T := 24) (bytes := 24) (l := pg) (L := t.next + 8) (rd.low K4 (by omega)) (by omega) (by omega) (by simp) m9 (by omega) (fun b k e => by have := gb b k e; omega) S4.feed (by rw [List.length_take]; unfold room; omega)
    refine Wo_all (by simp only [simq, Int.reduceEq, Nat.reduceEqDiff, k3, e5, p6, x6, y6, z6]; rfl) ?_
    have keep : ∀ c, c < s7.next → c ≠ d3 → s6.get c = t.get c := fun c hc hcd => (f6 c hc hcd).trans (K4.2.2 c (by omega))
    have hk4 := K4.2.1
    refine ⟨⟨⟨Nat.le_refl _, by omega, fun c hc => by rw [keep c (by omega) (by omega)]; exact L.2.2 c hc⟩, ?_, by omega, ⟨mh.1.keep fun c h1 h2 => keep c (by omega) (by omega), mh.2.keep mh.1 fun c h1 h2 => keep c (by omega) (by omega)⟩, mp.keep fun c h1 h2 => keep c h2 (by omega), mt.keep fun c h1 h2 => keep c h2 (by omega), g', s4.next, R6, by rw [htake]; exact G6, gb6, by simp only [simq, Int.reduceEq, Nat.reduceEqDiff, k2], by simp only [simq, Int.reduceEq, Nat.reduceEqDiff, k3], by simp only [simq, Int.reduceEq, Nat.reduceEqDiff, k19]⟩, by simp only [simq, Int.reduceEq, Nat.reduceEqDiff, h21], by simp only [simq, Int.reduceEq, Nat.reduceEqDiff, h20]⟩
    obtain ⟨es, e⟩ := rr
    exact ⟨es, (keep _ (by omega) (by omega)).trans e⟩
  · rintro fr t ⟨L, rr, hle, mh, mp, mt, gg, H, rd, G, gb, k2, k3, k19⟩
    rw [List.take_length] at G
    show W E _ _ _ _
    have rowd : t.row ⟨d3, 0, none⟩ 5 = some [strOf d.title, .slice qh nh ch, .slice qp np cp, gg, .slice qt nt ct] := rd.row rfl
    obtain ⟨t8, p8, R8, n8, f8⟩ := rr.put (o := 0) (vs := [strOf d.title, .slice qh nh ch, .slice qp np cp, gg, .slice qt nt ct]) (by simp)
    have B8 : But (s.next + 1) t t8 := but_put n8 f8
    have hst8 : storable (.agg ⟨[strOf d.title, .slice qh nh ch, .slice qp np cp, gg, .slice qt nt ct]⟩) = true := rfl
    have hl8 : Nat.beq (lenL [strOf d.title, .slice qh nh ch, .slice qp np cp, gg, .slice qt nt ct]) 5 = true := rfl
    refine W_seq (W_region (by simp only [simq, Int.reduceEq, Nat.reduceEqDiff, k2, k3, rowd, hst8, vcells_agg, hl8, p8]; rfl) ?_)
    refine W_ret ⟨rfl, _, res_cell (cs := [strOf d.title, .slice qh nh ch, .slice qp np cp, gg, .slice qt nt ct]) (by simp only [simq, Int.reduceEq, Nat.reduceEqDiff, k2]) (R8.row rfl) res_nil, L.trans (But.low B8 (by omega) L.2.1), _, rfl, rfl, ?_⟩
    refine ⟨s3.next, _, _, _, _, by omega, by omega, rfl, MTexts.to (mh.1.but B8 (by omega) (.inl (by omega))) (by omega) (Nat.le_refl _), mh.2.keep mh.1 fun c c1 c2 => f8 c (by omega), MTexts.to (mp.but B8 hle (.inl (by omega))) (Nat.le_refl _) (by rw [n8]; exact hle), (G.two (But.two (d := s.next + 1) B8) (by omega) (by omega)).mlists.to (by omega) (Nat.le_refl _), MTexts.to (mt.but B8 hle (.inl (by omega))) (Nat.le_refl _) (by rw [n8]; exact hle)⟩
end
end
end Go.Ev
