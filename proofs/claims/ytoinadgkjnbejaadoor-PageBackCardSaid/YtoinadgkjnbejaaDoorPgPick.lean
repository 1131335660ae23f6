/-
  A document with some of its pages.
-/
import Derived.Test.YtoinadgkjnbejaaDoorPgValid
set_option linter.unusedVariables false
set_option linter.unusedSimpArgs false
namespace Go.Pg
def headN (n : Nat) (s : Ln) : Ln := if (kd s).1 = 2 then wPages ++ dec n else s
def pickD (d : Doc) (ns : List Nat) : Doc := ⟨d.title, d.header.map (headN ns.length), d.prologue, ns.map (fun n => d.pages.getD (n - 1) []), d.trailer⟩
end Go.Pg
namespace Go.Ev
noncomputable section
open Go.Pg
def Ints (s : St) (hi : Nat) (v : Value) (ns : List Nat) : Prop := Sl s hi 1 v (ns.map fun (n : Nat) => Value.int .i64 (n : Int))
section
variable {E : Env} {f : FuncId} {s t u : St}
theorem put_gr {r o : Nat} {cs vs : List Value} {es : Nat} (h : s.get r = some (.cells cs es .gr)) (hl : o + vs.length ≤ cs.length) : s.put ⟨r, o, none⟩ vs = some (s.set r (.cells (splice cs o vs) es .gr)) := by
  show ob (asCells (s.get r)) (fun c => must c.2.2.writes (must (Nat.ble (o + lenL vs) (lenL c.1)) (some (s.set r (.cells (splice c.1 o vs) c.2.1 c.2.2))))) = _
  rw [h]
  show must true (must (Nat.ble (o + lenL vs) (lenL cs)) _) = _
  rw [must_true, lenL_eq, lenL_eq, Nat.ble_eq_true_of_le hl, must_true]
theorem sl_lt {hi size : Nat} {v : Value} {cs : List Value} (h : Sl s hi size v cs) : ∀ q n c, v = .slice (some q) n c → q.block < hi := by
  intro q n c e
  cases h with
  | nil => cases e
  | mk hb hg hl hc => cases e; exact hb
theorem sl_new {hi hi' b n c es : Nat} {md : Md} {cs0 cs1 cs : List Value} (h : Sl s hi 1 (.slice (some ⟨b, 0, none⟩) n c) cs) (hg : s.get b = some (.cells cs0 es md)) (hg' : t.get b = some (.cells cs1 es md)) (hl : cs1.length = n) (hb : b < hi') : Sl t hi' 1 (.slice (some ⟨b, 0, none⟩) n c) cs1 := by
  generalize hv : Value.slice (some ⟨b, 0, none⟩) n c = v at h
  cases h with
  | nil => cases hv
  | mk hb' hgx hlx hcx =>
    cases hv
    rw [hg] at hgx
    cases hgx
    have := Sl.mk (s := t) (hi := hi') (size := 1) (b := b) (o := 0) (n := n) (c := c) hb hg' (by omega) hcx
    rw [List.drop_zero, Nat.mul_one, List.take_of_length_le (by omega)] at this
    exact this
theorem splice_one {A B : List Value} {x y : Value} {i : Nat} (h : A.length = i) : splice (A ++ x :: B) i [y] = A ++ y :: B := by
  subst h
  rw [splice_eq]
  simp
theorem head_step {H : List Ln} {n i : Nat} (h : i < H.length) : ((H.take (i + 1)).map (headN n) ++ H.drop (i + 1)) = (H.take i).map (headN n) ++ headN n H[i] :: H.drop (i + 1) := by
  rw [List.take_succ_eq_append_getElem h, List.map_append, List.map_cons, List.map_nil, List.append_assoc, List.singleton_append]
theorem head_now {H : List Ln} {n i : Nat} (h : i < H.length) : ((H.take i).map (headN n) ++ H.drop i) = (H.take i).map (headN n) ++ H[i] :: H.drop (i + 1) := by
  rw [List.drop_eq_getElem_cons h]
set_option maxHeartbeats 16000000 in
theorem pick_run (hC : Codes E) (P : Prims E) (hf : Has E f Code.page_pick) (G : Gl s) {lo hi : Nat} {cs : List Value} {d : Doc} (hO : DocO s lo hi cs d) (hlo : 8 ≤ lo) (hhi : hi ≤ s.next) {v : Value} {ns : List Nat} (hv : Ints s s.next v ns)
    (hns : ∀ n ∈ ns, 1 ≤ n ∧ n ≤ d.pages.length) (hnl : ns.length ≤ 100000) (sm : Small d) (hx : ∀ x ∈ d.header, x.length ≤ 100000) (ft : Fits (pickD d ns)) :
    Cv E f [.agg ⟨cs⟩, v] s fun r t => r = .tuple ⟨toldOf (pickD d ns)⟩ ∧ Low lo s t := by
  obtain ⟨m, h, p, g, tr, hm1, hm2, rfl, dh, wh, dp, dg, dt⟩ := hO
  obtain ⟨vp, vn, vc, rfl, hvn⟩ := hv.parts
  rw [List.length_map, Nat.mul_one] at hvn
  subst hvn
  refine Cv_of hf.code ?_
  have h0 : (Tr.ofList (.e : Fr) 0 [.agg ⟨[strOf d.title, h, p, g, tr]⟩, .slice vp ns.length vc]).get 0 = some (.agg ⟨[strOf d.title, h, p, g, tr]⟩) := rfl
  have h1 : (Tr.ofList (.e : Fr) 0 [.agg ⟨[strOf d.title, h, p, g, tr]⟩, .slice vp ns.length vc]).get 1 = some (.slice vp ns.length vc) := rfl
  generalize (Tr.ofList (.e : Fr) 0 [.agg ⟨[strOf d.title, h, p, g, tr]⟩, .slice vp ns.length vc]) = fr0 at h0 h1
  unfold Code.page_pick
  refine W_seq (W_ops (Wo_box (lo := s.next) (s0 := s) (z := [strOf d.title, h, p, g, tr]) (by simp only [simq, Int.reduceEq, Nat.reduceEqDiff, h0]; rfl) rfl rfl ((Low.self s).skip 3) (Nat.le_add_right _ _) (by rw [next_skip]; omega) fun s1 B1 n1 _ => Wo_all (by simp only [simq, Int.reduceEq, Nat.reduceEqDiff]; rfl) ?_))
  show W E _ _ _ _
  rw [Nat.add_zero] at B1
  rw [next_skip] at n1
  have R1 := B1.own
  have L1 : Low s.next s s1 := B1.low
  refine W_seq (W_region (by simp only [simq, Int.reduceEq, Nat.reduceEqDiff]; rfl) ?_)
  refine W_seq (W_seq (W_region (by simp only [simq, Int.reduceEq, Nat.reduceEqDiff, h1]; rfl) (W_block ?_)))
  obtain ⟨gp, gc, rfl⟩ := dg.lists.parts
  have dg1 := dg.low L1 hhi
  have hv1 : Ints s1 s.next (.slice vp ns.length vc) ns := Sl.low hv L1 (Nat.le_refl _)
  have hpg := sm.g
  unfold Code.page_pick_l0
  refine W_for (n := ns.length) (fun i fr t => Low s1.next s1 t ∧ fr.get 2 = some (ptr s.next 0) ∧ fr.get 13 = some (.slice vp ns.length vc) ∧ ∃ ov vs, fr.get 6 = some ov ∧ Gr t s1.next 1 ov vs ∧ vs.length = i ∧ ∀ (j : Nat) (x : Value) (l : List Ln), vs[j]? = some x → ((ns.take i).map (fun n => d.pages.getD (n - 1) []))[j]? = some l → MTexts t m hi x l) (by omega) (by decide) ?_ ?_ ?_ 0 (Nat.zero_le _) ⟨Low.self s1, by simp only [simq, Int.reduceEq, Nat.reduceEqDiff], by simp only [simq, Int.reduceEq, Nat.reduceEqDiff], .slice none 0 0, [], by simp only [simq, Int.reduceEq, Nat.reduceEqDiff], .nil, rfl, by intro j x l e; simp at e⟩ (by simp only [simq, Int.reduceEq, Nat.reduceEqDiff]; rfl) (by simp only [simq, Int.reduceEq, Nat.reduceEqDiff]; rfl)
  · rintro i fr t x v hx ⟨e0, e1, e2, ov, vs, e4, e5⟩
    refine ⟨e0, ?_, ?_, ov, vs, ?_, e5⟩ <;> rcases hx with rfl | rfl | rfl <;> simp only [simq, Int.reduceEq, Nat.reduceEqDiff, e1, e2, e4]
  · rintro i fr t hlt ⟨L, k2, k13, ov, vs, k6, hgr, hvl, hvs⟩ k15 k14
    obtain ⟨a, rfl, hca⟩ := Sl.cell (Sl.low hv1 L (by omega)) (i := i) (by rw [List.length_map]; omega)
    rw [List.getElem?_map, List.getElem?_eq_getElem hlt, Option.map_some] at hca
    have hb1 : Nat.blt i ns.length = true := by rw [Nat.blt_eq]; exact hlt
    obtain ⟨hn1, hn2⟩ := hns _ (List.getElem_mem hlt)
    have htk : ns.take (i + 1) = ns.take i ++ [ns[i]] := List.take_succ_eq_append_getElem hlt
    generalize ns[i] = n at *
    have hL := L.2.1
    have hnp : n - 1 < d.pages.length := by omega
    have a3 : t.cell ⟨s.next, 3, none⟩ = some (.slice gp d.pages.length gc) := (R1.low L (by omega)).cell 3
    obtain ⟨ws, w1, w2, w3⟩ := dg1.low L (by omega)
    obtain ⟨b, rfl, hcb⟩ := Sl.cell w1.1 (i := n - 1) (by omega)
    have hwi : n - 1 < ws.length := by omega
    rw [List.getElem?_eq_getElem hwi] at hcb
    have hpw := w3 (n - 1) ws[n - 1] d.pages[n - 1] (List.getElem?_eq_getElem hwi) (List.getElem?_eq_getElem hnp)
    have hgd : d.pages.getD (n - 1) [] = d.pages[n - 1] := by simp [hnp]
    generalize ws[n - 1] = w at hcb hpw
    generalize d.pages[n - 1] = pg at *
    have hb2 : Nat.blt (n - 1) d.pages.length = true := by rw [Nat.blt_eq]; exact hnp
    have wsub : wr .i64 (((n : Nat) : Int) - 1) = ((n - 1 : Nat) : Int) := by rw [wr_i64 (by omega) (by omega)]; omega
    refine W_seq (W_region (by simp only [simq, Int.reduceEq, Nat.reduceEqDiff, k13, k15, hb1, hca]; rfl) ?_)
    obtain ⟨wp, wn, wc, rfl, hwn⟩ := hpw.texts.parts
    have m2 := next_skip t 10
    refine W_ops (Wo_run (l := [_, _, _, _, _, _, _]) (by simp only [simq, Int.reduceEq, Nat.reduceEqDiff, k2, k6, a3, wsub, hb2, hcb]; rfl) ?_)
    refine Wo_buildSlice (size := 1) (lo := t.next) (n := 1) (cs := [.slice wp wn wc]) (by simp only [simq, Int.reduceEq, Nat.reduceEqDiff]; rfl) rfl (Nat.le_add_right _ _) (by omega) (by decide) ?_
    rintro t2 ⟨D2, -⟩ l2 hs2
    have L2 : Low t.next t t2 := ((Low.self t).skip 10).trans l2
    refine Wo_append (lo := s1.next) (by simp only [simq, Int.reduceEq, Nat.reduceEqDiff]) (by simp only [simq, Int.reduceEq, Nat.reduceEqDiff]) (hgr.low L2 (Nat.le_refl _)) (Nat.le_trans hL L2.2.1) D2.feed (by decide) (by simp only [List.length_cons, List.length_nil]; unfold room; omega) ?_
    rintro v3 t3 g3 L3 -
    refine Wo_all (by simp only [simq, Int.reduceEq, Nat.reduceEqDiff]; rfl) ?_
    have L23 : Low s1.next t t3 := (L2.weak hL).trans L3
    refine ⟨⟨L.trans L23, by simp only [simq, Int.reduceEq, Nat.reduceEqDiff, k2], by simp only [simq, Int.reduceEq, Nat.reduceEqDiff, k13], v3, _, by simp only [simq, Int.reduceEq, Nat.reduceEqDiff], g3, by simp [hvl], fun j x l hj hl => ?_⟩, by simp only [simq, Int.reduceEq, Nat.reduceEqDiff, k15], by simp only [simq, Int.reduceEq, Nat.reduceEqDiff, k14]⟩
    rw [htk, List.map_append] at hl
    by_cases hji : j < i
    · rw [List.getElem?_append_left (by omega)] at hj
      rw [List.getElem?_append_left (by simp; omega)] at hl
      exact (hvs j x l hj hl).low L23 (by omega)
    · have hje : j = i := by
        have := (List.getElem?_eq_some_iff.1 hj).1
        simp at this
        omega
      subst hje
      rw [List.getElem?_append_right (by omega), show j - vs.length = 0 from by omega] at hj
      rw [List.getElem?_append_right (by simp; omega), show j - (List.map (fun n => d.pages.getD (n - 1) []) (List.take j ns)).length = 0 from by simp; omega] at hl
      cases hj
      simp only [List.map_cons, List.map_nil, List.getElem?_cons_zero, Option.some.injEq] at hl
      rw [hgd] at hl
      subst hl
      exact hpw.low L23 (by omega)
  · rintro fr t ⟨L, k2, k13, ov, vs, k6, hgr, hvl, hvs⟩
    rw [List.take_length] at hvs
    show W E _ _ _ _
    have hL := L.2.1
    have Rt := R1.low L (by omega)
    obtain ⟨q6, n6, c6, rfl, hn6⟩ := hgr.sl.parts
    obtain ⟨s2, p2, R2, n2, f2⟩ := Rt.put (o := 3) (vs := [.slice q6 n6 c6]) (by simp)
    have R2 : Row s2 s.next [strOf d.title, h, p, .slice q6 n6 c6, tr] := R2
    have hst : storable (.slice q6 n6 c6) = true ∧ vcells (.slice q6 n6 c6) = [.slice q6 n6 c6] ∧ Nat.beq (lenL [Value.slice q6 n6 c6]) 1 = true := ⟨rfl, rfl, rfl⟩
    refine W_seq (W_region (by simp only [simq, Int.reduceEq, Nat.reduceEqDiff, k2, k6, hst.1, hst.2.1, hst.2.2, p2]; rfl) ?_)
    have B2 : But s.next t s2 := but_put n2 f2
    have st0 : ∀ c, c < s.next → s2.get c = s.get c := fun c hc => (f2 c (by omega)).trans ((L.2.2 c (by omega)).trans (L1.2.2 c hc))
    have dh2 : MTexts s2 lo m h d.header := Mid.keep dh fun c c1 c2 => st0 c (by omega)
    have wh2 : Wri s2 h (d.header.map strOf) := wh.keep dh fun c c1 c2 => st0 c (by omega)
    have dp2 : MTexts s2 m hi p d.prologue := Mid.keep dp fun c c1 c2 => st0 c (by omega)
    have dt2 : MTexts s2 m hi tr d.trailer := Mid.keep dt fun c c1 c2 => st0 c (by omega)
    have hN2 : s2.next = t.next := n2
    have gr2 : Gr s2 s1.next 1 (.slice q6 n6 c6) vs := hgr.but B2 (by omega)
    have vs2 : ∀ (j : Nat) (x : Value) (l : List Ln), vs[j]? = some x → (ns.map (fun n => d.pages.getD (n - 1) []))[j]? = some l → MTexts s2 m hi x l := fun j x l e1 e2 => (hvs j x l e1 e2).but B2 (by omega) (.inr hhi)
    have G2 : Gl s2 := (G.next L1).low L (by have := G.le; omega) |>.but B2 (by have := G.le; omega)
    obtain ⟨hp_, hc_, rfl⟩ : ∃ q c, h = .slice q d.header.length c := by
      obtain ⟨q, n, c, e, hn⟩ := dh2.texts.parts
      rw [List.length_map, Nat.mul_one] at hn
      subst hn
      exact ⟨_, _, e⟩
    obtain ⟨hb, es, hb1, hb2, hb3, hbr⟩ : ∃ hb es, lo ≤ hb ∧ (hb < m ∨ s2.next ≤ hb) ∧ hb ≠ s.next ∧ (d.header ≠ [] → hp_ = some ⟨hb, 0, none⟩ ∧ s2.get hb = some (.cells (d.header.map strOf) es .gr)) := by
      rcases wh2 with e | ⟨b, n, es, e, hg⟩
      · exact ⟨s2.next, 0, by omega, .inr (Nat.le_refl _), by omega, fun hne => absurd (List.map_eq_nil_iff.1 e) hne⟩
      · unfold sl at e
        cases e
        have h1 := dh2.2 _ _ _ rfl
        have h2 : b < m := sl_lt dh2.1 _ _ _ rfl
        exact ⟨b, es, h1, .inl h2, by omega, fun _ => ⟨rfl, hg⟩⟩
    have a1 : s2.cell ⟨s.next, 1, none⟩ = some (.slice hp_ d.header.length hc_) := R2.cell 1
    have hhl := sm.h
    refine W_seq (W_seq (W_region (by simp only [simq, Int.reduceEq, Nat.reduceEqDiff, k2, a1]; rfl) (W_block ?_)))
    unfold Code.page_pick_l1
    have hpl : (ns.map (fun n => d.pages.getD (n - 1) [])).length = ns.length := by simp
    have hvs6 : n6 = ns.length := by omega
    subst hvs6
    have hsnx := G.le
    refine W_for (n := d.header.length) (fun i fr u => But hb s2 u ∧ (d.header ≠ [] → u.get hb = some (.cells (((d.header.take i).map (headN ns.length) ++ d.header.drop i).map strOf) es .gr)) ∧ (d.header = [] → u = s2) ∧ fr.get 2 = some (ptr s.next 0) ∧ fr.get 6 = some (.slice q6 ns.length c6) ∧ fr.get 32 = some (.slice hp_ d.header.length hc_)) (by omega) (by decide) ?_ ?_ ?_ 0 (Nat.zero_le _) ⟨But.refl _ _, fun hne => by simpa using (hbr hne).2, fun _ => rfl, by simp only [simq, Int.reduceEq, Nat.reduceEqDiff, k2], by simp only [simq, Int.reduceEq, Nat.reduceEqDiff, k6], by simp only [simq, Int.reduceEq, Nat.reduceEqDiff]⟩ (by simp only [simq, Int.reduceEq, Nat.reduceEqDiff]; rfl) (by simp only [simq, Int.reduceEq, Nat.reduceEqDiff]; rfl)
    · rintro i fr t x v hx ⟨e0, e1, e5, e2, e3, e4⟩
      refine ⟨e0, e1, e5, ?_, ?_, ?_⟩ <;> rcases hx with rfl | rfl | rfl <;> simp only [simq, Int.reduceEq, Nat.reduceEqDiff, e2, e3, e4]
    · rintro i fr u hlt ⟨B, hrow, -, k2, k6, k32⟩ k34 k33
      have hne : d.header ≠ [] := fun e => by rw [e] at hlt; simp at hlt
      obtain ⟨rfl, hg0⟩ := hbr hne
      have hrow := hrow hne
      have hB := B.1
      have hblt : hb < s2.next := by have := sl_lt dh2.1 _ _ _ rfl; simp only at this; omega
      have Gu : Gl u := G2.but B (by omega)
      rw [head_now hlt, List.map_append, List.map_cons] at hrow
      have hcell : u.cell ⟨hb, i, none⟩ = some (strOf d.header[i]) := by
        rw [get_cell hrow, List.getElem?_append_right (by simp; omega)]
        simp [show i - min i d.header.length = 0 from by omega]
      have hxl := hx _ (List.getElem_mem hlt)
      have hst := head_step (n := ns.length) hlt
      generalize d.header[i] = x at *
      have hbi : Nat.blt i d.header.length = true := by rw [Nat.blt_eq]; exact hlt
      have sms : same (.slice (some ⟨hb, 0, none⟩) d.header.length hc_) (.slice (some ⟨hb, 0, none⟩) d.header.length hc_) = true := same_slice fun a e => by cases e; rfl
      have a1u : u.cell ⟨s.next, 1, none⟩ = some (.slice (some ⟨hb, 0, none⟩) d.header.length hc_) := (R2.but B (by omega) (by omega)).cell 1
      refine W_seq (W_region (by simp only [simq, Int.reduceEq, Nat.reduceEqDiff, k32, k34, hbi, add_eq, Nat.mul_one, Nat.zero_add, hcell]; rfl) ?_)
      refine W_seq (W_opsM (Wo_run (by simp only [simq, Int.reduceEq, Nat.reduceEqDiff]; rfl) (Wo_call hC.page_comment.prim (args := [strOf x]) (by simp only [simq, Int.reduceEq, Nat.reduceEqDiff]; try rfl) ((comment_run hC P hC.page_comment (s := u.skip 0) (Gu.skip 0) x hxl).mono ?_))))
      rintro _ u2 ⟨rfl, l2⟩
      have l2 : Low u.next u u2 := l2
      have hl2 := l2.2.1
      refine Wo_all (by simp only [simq, Int.reduceEq, Nat.reduceEqDiff, nth0, nth1]; rfl) ?_
      show W E _ _ _ _
      have B2 : But hb s2 u2 := B.trans (l2.but hb)
      have hrow2 : u2.get hb = some (.cells (((d.header.take i).map (headN ns.length)).map strOf ++ strOf x :: (d.header.drop (i + 1)).map strOf) es .gr) := by rw [l2.2.2 hb (by omega)]; exact hrow
      have hwd := word_dec (kd_le x) 2 (by decide)
      rw [show wordOf 2 = ([37, 37, 80, 97, 103, 101, 115, 58, 32] : Ln) from rfl] at hwd
      by_cases hk : (kd x).1 = 2
      case neg =>
        have dk : decide ((kd x).1 = 2) = false := decide_eq_false hk
        rw [dk] at hwd
        refine W_seq (W_region (by simp only [simq, Int.reduceEq, Nat.reduceEqDiff, hwd]; rfl) (W_else (by simp only [simq, Int.reduceEq, Nat.reduceEqDiff]) (W_skip ?_)))
        refine ⟨⟨B2, fun _ => ?_, fun e => absurd e hne, by simp only [simq, Int.reduceEq, Nat.reduceEqDiff, k2], by simp only [simq, Int.reduceEq, Nat.reduceEqDiff, k6], by simp only [simq, Int.reduceEq, Nat.reduceEqDiff, k32]⟩, by simp only [simq, Int.reduceEq, Nat.reduceEqDiff, k34], by simp only [simq, Int.reduceEq, Nat.reduceEqDiff, k33]⟩
        rw [hst, headN, if_neg hk, List.map_append, List.map_cons]
        exact hrow2
      have dk : decide ((kd x).1 = 2) = true := decide_eq_true hk
      rw [dk] at hwd
      refine W_seq (W_region (by simp only [simq, Int.reduceEq, Nat.reduceEqDiff, hwd]; rfl) (W_then (by simp only [simq, Int.reduceEq, Nat.reduceEqDiff]) ?_))
      have a1u2 : u2.cell ⟨s.next, 1, none⟩ = some (.slice (some ⟨hb, 0, none⟩) d.header.length hc_) := (R2.but B2 (by omega) (by omega)).cell 1
      have Gu2 : Gl u2 := Gu.next l2
      have hito := pItoa_run (s := u2) (g := 0) (n := ns.length) Gu2.tab (by omega)
      have hdl := dec_len ns.length
      have hadd : binOp .add (strOf [37, 37, 80, 97, 103, 101, 115, 58, 32]) (strOf (dec ns.length)) = some (strOf (wPages ++ dec ns.length)) := bin_addS _ _ (by simp; omega)
      have hput : u2.put ⟨hb, i, none⟩ [strOf (wPages ++ dec ns.length)] = some (u2.set hb (.cells (splice (((d.header.take i).map (headN ns.length)).map strOf ++ strOf x :: (d.header.drop (i + 1)).map strOf) i [strOf (wPages ++ dec ns.length)]) es .gr)) := put_gr hrow2 (by simp; omega)
      rw [splice_one (by simp; omega)] at hput
      refine W_ops (Wo_run (l := [_, _, _, _, _]) (by simp only [simq, Int.reduceEq, Nat.reduceEqDiff, k2, k6, a1u2]; rfl) ?_)
      refine Wo_opA (v := strOf (dec ns.length)) (s' := u2) (by simp only [simq, Int.reduceEq, Nat.reduceEqDiff, pc_some P.itoa, Int.ofNat_eq_natCast, hito]) (again_load1 (p := ⟨s.next, 1, none⟩) (by simp only [simq, Int.reduceEq, Nat.reduceEqDiff]) a1u2 (by simp only [simq, Int.reduceEq, Nat.reduceEqDiff]) sms again_nil) ?_
      refine Wo_all (by simp only [simq, Int.reduceEq, Nat.reduceEqDiff, hadd, k34, hbi, add_eq, Nat.mul_one, Nat.zero_add, stor_str, vcells_str, len_one, hput]; rfl) ?_
      refine ⟨⟨⟨by rw [St.next_set]; exact B2.1, fun c c1 c2 => by rw [St.get_set_ne _ _ (Ne.symm c2)]; exact B2.2 c c1 c2⟩, fun _ => ?_, fun e => absurd e hne, by simp only [simq, Int.reduceEq, Nat.reduceEqDiff, k2], by simp only [simq, Int.reduceEq, Nat.reduceEqDiff, k6], by simp only [simq, Int.reduceEq, Nat.reduceEqDiff, k32]⟩, by simp only [simq, Int.reduceEq, Nat.reduceEqDiff, k34], by simp only [simq, Int.reduceEq, Nat.reduceEqDiff, k33]⟩
      rw [hst, headN, if_pos hk, List.map_append, List.map_cons]
      exact St.get_set_same _ _ _
    · rintro fr u ⟨B, hrow, hsame, k2, k6, k32⟩
      show W E _ _ _ _
      have hB := B.1
      rw [List.take_length, List.drop_length, List.append_nil] at hrow
      have Ru := R2.but B (by omega) (Ne.symm hb3)
      have Gu : Gl u := G2.but B (by omega)
      have LU : Low lo s u := ⟨by omega, by omega, fun c hc => (B.2 c (by omega) (by omega)).trans (st0 c (by omega))⟩
      have D : DocV u u.next [strOf d.title, .slice hp_ d.header.length hc_, p, .slice q6 ns.length c6, tr] (pickD d ns) := by
        by_cases hne : d.header = []
        · obtain rfl := hsame hne
          refine ⟨_, _, _, _, rfl, ?_, dp2.texts.wide (by omega), ⟨vs, gr2.sl, by simp [pickD]; omega, fun j x l e1 e2 => (vs2 j x l e1 e2).texts.wide (by omega)⟩, dt2.texts.wide (by omega)⟩
          have := dh2.texts.wide (hi' := u.next) (by omega)
          simp only [pickD]
          rw [hne] at this ⊢
          exact this
        · obtain ⟨rfl, hg0⟩ := hbr hne
          have hbm := sl_lt dh2.1 _ _ _ rfl
          simp only at hbm
          refine ⟨_, _, _, _, rfl, sl_new dh2.1 hg0 (hrow hne) (by simp [pickD]) (by omega), (dp2.but B (by omega) (.inl hbm)).texts.wide (by omega), ⟨vs, ((gr2.but B (by omega)).sl), by simp [pickD]; omega, fun j x l e1 e2 => ((vs2 j x l e1 e2).but B (by omega) (.inl hbm)).texts.wide (by omega)⟩, (dt2.but B (by omega) (.inl hbm)).texts.wide (by omega)⟩
      have ru : u.row ⟨s.next, 0, none⟩ 5 = some [strOf d.title, .slice hp_ d.header.length hc_, p, .slice q6 ns.length c6, tr] := Ru.row rfl
      refine W_seq (W_opsM (Wo_run (by simp only [simq, Int.reduceEq, Nat.reduceEqDiff, k2, ru]; rfl) (Wo_call hC.page_told.prim (args := [.agg ⟨[strOf d.title, .slice hp_ d.header.length hc_, p, .slice q6 ns.length c6, tr]⟩]) (by simp only [simq, Int.reduceEq, Nat.reduceEqDiff]; try rfl) ((told_run hC P hC.page_told (s := u) Gu D (Nat.le_refl _) ft).mono ?_))))
      rintro _ u2 ⟨rfl, l2⟩
      obtain ⟨x, y, hxy⟩ : ∃ x y, toldOf (pickD d ns) = [x, y] := by
        unfold toldOf
        split <;> exact ⟨_, _, rfl⟩
      rw [hxy]
      refine Wo_all (by simp only [simq, Int.reduceEq, Nat.reduceEqDiff, nth0, nth1]; rfl) ?_
      show W E _ _ _ _
      refine W_ret ⟨rfl, _, res_tmp (res_tmp res_nil), by simp only [simq, Int.reduceEq, Nat.reduceEqDiff, tupled], LU.trans (l2.weak LU.le)⟩
end
end
end Go.Ev
