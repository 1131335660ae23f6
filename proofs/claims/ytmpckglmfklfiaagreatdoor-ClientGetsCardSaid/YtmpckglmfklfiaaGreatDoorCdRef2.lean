/-
  Rights and a call out of bytes, the document's side.
-/
import Derived.Test.YtmpckglmfklfiaaGreatDoorCdRefR
set_option linter.unusedVariables false
set_option linter.unusedSimpArgs false
namespace Go.Ev
noncomputable section
section
variable {E : Env} {s0 s : St} {tr tb to_ hi a c d : Nat} {v : Value} {l : List UInt8} {zs cs : List Value} {fr : Fr} {x y : Nat × Int} {Q : Ex → Fr → St → Prop}
theorem Gt.val (G : Gt s0 tr tb to_ hi a c d v l zs fr s x cs) {g t1 t2 t3 i : Nat} {xs : List Arg} {ws : List Value} {w : Value} (hp : E.prim g = none) (hw : ∀ fr, evL fr xs = ws)
    (h : Cv E g (ptr a 0 :: ws) s fun r s' => r = w ∧ Rd s' hi a v l y ∧ But a s s') (hs : storable w = true) (hv : vcells w = [w]) (hi' : i + 1 ≤ cs.length)
    (hd : (t1 ≠ tr ∧ t1 ≠ tb ∧ t1 ≠ to_) ∧ (t2 ≠ tr ∧ t2 ≠ tb ∧ t2 ≠ to_) ∧ (t3 ≠ tr ∧ t3 ≠ tb ∧ t3 ≠ to_) ∧ t2 ≠ t1 ∧ t3 ≠ t2)
    (k : ∀ fr' s', (∀ t, t ≠ t1 → t ≠ t2 → t ≠ t3 → fr'.get t = fr.get t) → Gt s0 tr tb to_ hi a c d v l zs fr' s' y (splice cs i [w]) → Q .normal fr' s') :
    W E (.many 0 ([⟨some t1, .mov (.t tr), none, 0, []⟩] ++ (⟨some t2, .callF g (.t t1 :: xs), none, 1, []⟩ :: [⟨some t3, .faddr i (.t tb), none, 2, []⟩, ⟨none, .store 1 (.t t3) (.t t2), none, 3, []⟩]))) fr s Q :=
  G.field (P := fun r _ => r = w) hp hw h (by rintro _ _ rfl; exact ⟨hs, by rw [hv]; rfl⟩) hi' hd (by
    rintro _ fr' s1 s' rfl _ hk G'
    rw [hv] at G'
    exact k fr' s' hk G')
theorem Gt.flagG (G : Gt s0 tr tb to_ hi a c d v l zs fr s x cs) {g t1 t2 t3 t4 i m : Nat} {xs : List Arg} {ws : List Value} (hp : E.prim g = none) (hw : ∀ fr, evL fr xs = ws)
    (h : Cv E g (ptr a 0 :: ws) s fun r s' => r = .int .i64 (m : Nat) ∧ Rd s' hi a v l y ∧ But a s s') (hi' : i + 1 ≤ cs.length)
    (hd : (t1 ≠ tr ∧ t1 ≠ tb ∧ t1 ≠ to_) ∧ (t2 ≠ tr ∧ t2 ≠ tb ∧ t2 ≠ to_) ∧ (t3 ≠ tr ∧ t3 ≠ tb ∧ t3 ≠ to_) ∧ (t4 ≠ tr ∧ t4 ≠ tb ∧ t4 ≠ to_) ∧ t4 ≠ t3)
    (k : ∀ fr' s', (∀ t, t ≠ t1 → t ≠ t2 → t ≠ t3 → t ≠ t4 → fr'.get t = fr.get t) → Gt s0 tr tb to_ hi a c d v l zs fr' s' y (splice cs i [.bool (decide (m = 1))]) → Q .normal fr' s') :
    W E (.many 0 ([⟨some t1, .mov (.t tr), none, 0, []⟩] ++ (⟨some t2, .callF g (.t t1 :: xs), none, 1, []⟩ :: [⟨some t3, .bin .eql (.t t2) (.c (.int .i64 1)), none, 2, []⟩, ⟨some t4, .faddr i (.t tb), none, 3, []⟩, ⟨none, .store 1 (.t t4) (.t t3), none, 4, []⟩]))) fr s Q := by
  obtain ⟨⟨a1, a2, a3⟩, ⟨b1, b2, b3⟩, ⟨c1, c2, c3⟩, ⟨d1, d2, d3⟩, e1⟩ := hd
  have hr := G.r
  have hb := G.b
  refine W_opsM (Wo_run (by simp only [sim, hr]; rfl) (Wo_call hp (args := ptr a 0 :: ws) (by simp only [sim, hw, if_true]) (h.mono ?_)))
  rintro _ s1 ⟨rfl, R1, B1⟩
  have e2 : decide (((m : Nat) : Int) = 1) = decide (m = 1) := decide_eq_decide.2 (by omega)
  obtain ⟨t, p2, G2, B2⟩ := (G.go R1 B1).put (i := i) (vs := [.bool (decide (m = 1))]) hi'
  refine Wo_all (by simp only [sim, hb, e2, if_neg a2, if_neg b2, if_neg c2, if_true, if_neg e1, if_neg (Ne.symm e1), Nat.zero_add, p2]; rfl) (k _ t ?_ (G2.frm ?_))
  · intro t h1 h2 h3 h4
    simp only [Tr.get_set, if_neg (Ne.symm h1), if_neg (Ne.symm h2), if_neg (Ne.symm h3), if_neg (Ne.symm h4)]
  refine ⟨?_, ?_, ?_⟩ <;> simp only [Tr.get_set, if_neg a1, if_neg a2, if_neg a3, if_neg b1, if_neg b2, if_neg b3, if_neg c1, if_neg c2, if_neg c3, if_neg d1, if_neg d2, if_neg d3]
end
def rtR (l : List UInt8) (x : Nat × Int) : List Value := if (rt6 l x).2.2 = 0 then rtV l x else rightsC 0 0 0 0 0 false
theorem rtR_len (l : List UInt8) (x : Nat × Int) : (rtR l x).length = 6 := by unfold rtR; split <;> rfl
section
variable {E : Env} {f : FuncId} {s t : St} {hi a : Nat} {v : Value} {l : List UInt8} {x : Nat × Int}
theorem refrights_run (hC : Codes E) (hf : Has E f Code._tithing_tithingref26_reader_rights) (R : Rd s hi a v l x) (hh : hi ≤ s.next) : Cv E f [ptr a 0] s fun r s' => r = .agg ⟨rtR l x⟩ ∧ Rd s' hi a v l (rt6 l x).2 ∧ But a s s' := by
  refine Cv_of hf.code ?_
  have h0 : (Tr.ofList (.e : Fr) 0 [ptr a 0]).get 0 = some (ptr a 0) := rfl
  generalize (Tr.ofList (.e : Fr) 0 [ptr a 0]) = fr0 at h0
  unfold Code._tithing_tithingref26_reader_rights
  have nth0 : ∀ (x y : Value), nthL [x, y] 0 = some x := fun _ _ => rfl
  have nth1 : ∀ (x y : Value), nthL [x, y] 1 = some y := fun _ _ => rfl
  refine W_seq (W_ops (Wo_alloc (lo := s.next) (s0 := s) ((Low.self s).skip 1) (Nat.le_add_right _ _) (by rw [next_skip]; omega) fun s1 B1 n1 _ => Wo_nil ?_))
  refine W_seq (W_ops (Wo_alloc (lo := s.next) (s0 := s) (B1.low.skip 1) (Nat.le_trans B1.low.le (Nat.le_add_right _ _)) (by rw [next_skip]; omega) fun s2 B2 n2 f2 => Wo_nil ?_))
  rw [Nat.add_zero] at B1 B2 f2
  rw [next_skip] at n1 n2
  have O2 : Row s2 s.next (rightsC 0 0 0 0 0 false) := by
    obtain ⟨es, e⟩ := B1.at_
    exact ⟨es, by rw [f2 _ (by omega), get_skip]; exact e⟩
  have G0 : Gt s 0 3 2 hi a s1.next s.next v l (rightsC 0 0 0 0 0 false) ((fr0.set 2 (ptr (s.next + 0) 0)).set 3 (ptr (s1.next + 0) 0)) s2 x (rightsC 0 0 0 0 0 false) :=
    { r := by simp only [sims, Int.reduceEq, Nat.reduceEqDiff, h0], b := by simp only [sims, Int.reduceEq, Nat.reduceEqDiff], o := by simp only [sims, Int.reduceEq, Nat.reduceEqDiff], rd := R.low B2.low R.lt, box := B2.at_, out := O2, ac := by have := R.lt; omega, ad := by have := R.lt; omega, cd := by omega, hc := by omega, hd := by omega, mc := by omega, mh := hh, keep := B2.low.but a }
  refine W_seq (G0.val (ws := [.int .i64 (4 : Nat)]) (y := (rt1 l x).2) hC._tithing_tithingref26_reader_number.prim (fun _ => rfl) (refnumber_run hC hC._tithing_tithingref26_reader_number G0.rd (n := 4) (by decide)) rfl rfl (le_by rfl) (by decide) fun fr1 s3 _ G1 => ?_)
  refine W_seq (G1.val (ws := [.int .i64 (4 : Nat)]) (y := (rt2 l x).2) hC._tithing_tithingref26_reader_number.prim (fun _ => rfl) (refnumber_run hC hC._tithing_tithingref26_reader_number G1.rd (n := 4) (by decide)) rfl rfl (le_by rfl) (by decide) fun fr2 s4 _ G2 => ?_)
  refine W_seq (G2.val (ws := [.int .i64 (7 : Nat)]) (y := (rt3 l x).2) hC._tithing_tithingref26_reader_most.prim (fun _ => rfl) (refmost_run hC hC._tithing_tithingref26_reader_most G2.rd (n := 7) (by decide)) rfl rfl (le_by rfl) (by decide) fun fr3 s5 _ G3 => ?_)
  refine W_seq (G3.val (ws := [.int .i64 (7 : Nat)]) (y := (rt4 l x).2) hC._tithing_tithingref26_reader_most.prim (fun _ => rfl) (refmost_run hC hC._tithing_tithingref26_reader_most G3.rd (n := 7) (by decide)) rfl rfl (le_by rfl) (by decide) fun fr4 s6 _ G4 => ?_)
  refine W_seq (G4.val (ws := [.int .i64 (7 : Nat)]) (y := (rt5 l x).2) hC._tithing_tithingref26_reader_most.prim (fun _ => rfl) (refmost_run hC hC._tithing_tithingref26_reader_most G4.rd (n := 7) (by decide)) rfl rfl (le_by rfl) (by decide) fun fr5 s7 _ G5 => ?_)
  refine W_seq (G5.flagG (ws := [.int .i64 (1 : Nat)]) (y := (rt6 l x).2) (m := (rt6 l x).1) hC._tithing_tithingref26_reader_most.prim (fun _ => rfl) (refmost_run hC hC._tithing_tithingref26_reader_most G5.rd (n := 1) (by decide)) (le_by rfl) (by decide) fun fr6 s9 _ G9 => ?_)
  have G9 : Gt s 0 3 2 hi a s1.next s.next v l (rightsC 0 0 0 0 0 false) fr6 s9 (rt6 l x).2 (rtV l x) := G9
  clear G0 G1 G2 G3 G4 G5
  have k0 := G9.r
  have k3 := G9.b
  have k2 := G9.o
  have c2 : s9.cell ⟨a, 2, none⟩ = some (.int .i64 (rt6 l x).2.2) := G9.rd.row.cell 2
  have al := R.lt
  by_cases he : (rt6 l x).2.2 = 0
  · have hR : rtR l x = rtV l x := if_pos he
    rw [hR]
    refine W_seq (W_seq (W_region (by simp only [sims, Int.reduceEq, Nat.reduceEqDiff, k0, c2, nilOk_ptr, he]; rfl) ?_))
    refine W_else (by simp only [sims, Int.reduceEq, Nat.reduceEqDiff]) (W_skip ?_)
    have rw9 : s9.row ⟨s1.next, 0, none⟩ 6 = some (rtV l x) := G9.box.row rfl
    have hok := (rt_bwd he).2.2.1
    first | refine W_seq (W_opsM (Wo_run (by simp only [sims, Int.reduceEq, Nat.reduceEqDiff, k3, rw9]; rfl) (Wo_call hC.tithingref25_PutRights.prim (by simp only [sims, Int.reduceEq, Nat.reduceEqDiff, k3, rw9]; try rfl) ((refPutRights_run hC hC.tithingref25_PutRights (o := ((rt1 l x).1 : Nat)) (g := ((rt2 l x).1 : Nat)) (fo := ((rt3 l x).1 : Nat)) (fg := ((rt4 l x).1 : Nat)) (fa := ((rt5 l x).1 : Nat)) (b := decide ((rt6 l x).1 = 1))).mono ?_)))) | refine W_seq (W_ops (Wo_run (by simp only [sims, Int.reduceEq, Nat.reduceEqDiff, k3, rw9]; rfl) (Wo_call hC.tithingref25_PutRights.prim (by simp only [sims, Int.reduceEq, Nat.reduceEqDiff, k3, rw9]; try rfl) ((refPutRights_run hC hC.tithingref25_PutRights (o := ((rt1 l x).1 : Nat)) (g := ((rt2 l x).1 : Nat)) (fo := ((rt3 l x).1 : Nat)) (fg := ((rt4 l x).1 : Nat)) (fa := ((rt5 l x).1 : Nat)) (b := decide ((rt6 l x).1 = 1))).mono ?_))))
    rintro r10 s10 (⟨-, y, rfl, -, l10⟩ | ⟨hno, -⟩)
    case inr => exact absurd hok hno
    refine Wo_all (by simp only [sims, Int.reduceEq, Nat.reduceEqDiff, nth0, nth1]; rfl) ?_
    have T := G9.rd.low l10 G9.rd.lt
    first | refine W_seq (W_opsM (Wo_run (by simp only [sims, Int.reduceEq, Nat.reduceEqDiff, k0]; rfl) (Wo_call hC._tithing_tithingref26_reader_check.prim (by simp only [sims, Int.reduceEq, Nat.reduceEqDiff, k0]; try rfl) ((check_run hC._tithing_tithingref26_reader_check T true 3).mono ?_)))) | refine W_seq (W_ops (Wo_run (by simp only [sims, Int.reduceEq, Nat.reduceEqDiff, k0]; rfl) (Wo_call hC._tithing_tithingref26_reader_check.prim (by simp only [sims, Int.reduceEq, Nat.reduceEqDiff, k0]; try rfl) ((check_run hC._tithing_tithingref26_reader_check T true 3).mono ?_))))
    rw [chkP_true]
    rintro _ s11 ⟨T, B11⟩
    refine Wo_nil ?_
    show W E _ _ s11 _
    have O := (G9.out.low l10 G9.hd).but B11 (Nat.lt_of_lt_of_le G9.hd l10.2.1) (Ne.symm (Nat.ne_of_lt al))
    have X : s11.row ⟨s1.next, 0, none⟩ 6 = some (rtV l x) := ((G9.box.low l10 G9.hc).but B11 (Nat.lt_of_lt_of_le G9.hc l10.2.1) (Ne.symm G9.ac)).row rfl
    obtain ⟨u, p, U, nu, fu⟩ := O.put (o := 0) (vs := rtV l x) (le_by rfl)
    have U : Row u s.next (rtV l x) := U
    have BU := but_put nu fu
    have hl6 : Nat.beq (lenL (rtV l x)) 6 = true := rfl
    refine W_seq (W_region (by simp only [sims, Int.reduceEq, Nat.reduceEqDiff, k2, k3, X, hl6, p]; rfl) (W_ret ⟨rfl, _, res_cell (by simp only [sims, Int.reduceEq, Nat.reduceEqDiff, k2]) (U.row rfl) res_nil, rfl, T.but BU (Nat.ne_of_lt al) hh, ?_⟩))
    exact (((G9.keep.trans (l10.but a)).trans B11).over BU (Nat.le_refl _))
  · have hR : rtR l x = rightsC 0 0 0 0 0 false := if_neg he
    rw [hR]
    have d : decide ((rt6 l x).2.2 = 0) = false := decide_eq_false he
    refine W_seq (W_seq (W_region (by simp only [sims, Int.reduceEq, Nat.reduceEqDiff, k0, c2, nilOk_ptr, d]; rfl) ?_))
    refine W_then (by simp only [sims, Int.reduceEq, Nat.reduceEqDiff]) ?_
    obtain ⟨u, p, U, nu, fu⟩ := G9.out.put (o := 0) (vs := rightsC 0 0 0 0 0 false) (le_by rfl)
    have U : Row u s.next (rightsC 0 0 0 0 0 false) := U
    have BU := but_put nu fu
    have hl6 : Nat.beq (lenL (rightsC 0 0 0 0 0 false)) 6 = true := rfl
    refine W_seq (W_ops (Wo_build (l := rightsC 0 0 0 0 0 false) rfl (Wo_all (by simp only [sims, Int.reduceEq, Nat.reduceEqDiff, k2, hl6, p]; rfl) (W_ret ⟨rfl, _, res_cell (by simp only [sims, Int.reduceEq, Nat.reduceEqDiff, k2]) (U.row rfl) res_nil, rfl, G9.rd.but BU (Nat.ne_of_lt al) hh, ?_⟩))))
    exact G9.keep.over BU (Nat.le_refl _)
theorem bit_mod (m i : Nat) : decide (((m / 2 ^ i % 2 : Nat) : Int) = 1) = bit m i := by
  unfold bit
  exact decide_eq_decide.2 (by omega)
theorem gcE_ok {l : List UInt8} (h : gcE l = 0) : (rt6 l (gcx l)).2.2 = 0 := by
  obtain ⟨a0, -⟩ := en_bwd (l := l) (x := (gc10 l).2) h
  exact (lg_bwd' (l := l) (n := 200) (x := (rt6 l (gcx l)).2) (y := gc10 l) rfl a0).1
set_option maxHeartbeats 2000000 in
theorem refGetCall_run (hC : Codes E) (hf : Has E f Code.tithingref26_GetCall) (hs : Sl s s.next 1 v (l.map ofByte)) (hl : l.length ≤ 65536) : Cv E f [v] s fun r s' => Low s.next s s' ∧
    ((gcE l ≠ 0 ∧ r = .tuple ⟨[.agg ⟨callZ.cells (.slice none 0 0)⟩, .int .i64 (gcE l)]⟩) ∨ (gcE l = 0 ∧ ∃ w, r = .tuple ⟨[.agg ⟨(getC l).cells w⟩, .int .i64 0]⟩ ∧ Mid s' s.next s'.next 1 w ((gc10 l).1.map ofByte))) := by
  obtain ⟨p, m, cc, rfl, hm⟩ := hs.parts
  rw [List.length_map, Nat.mul_one] at hm
  subst hm
  refine Cv_of hf.code ?_
  have h0 : (Tr.ofList (.e : Fr) 0 [.slice p l.length cc]).get 0 = some (.slice p l.length cc) := rfl
  generalize (Tr.ofList (.e : Fr) 0 [.slice p l.length cc]) = fr0 at h0
  unfold Code.tithingref26_GetCall
  refine W_seq (W_ops (Wo_alloc (lo := s.next) (s0 := s) ((Low.self s).skip 2) (Nat.le_add_right _ _) (by rw [next_skip]; omega) fun s1 B1 n1 _ => Wo_all (by simp only [sims, Int.reduceEq, Nat.reduceEqDiff]; rfl) ?_))
  rw [Nat.add_zero] at B1
  rw [next_skip] at n1
  refine W_seq (W_ops (Wo_run (l := [_, _]) (by simp only [sims, Int.reduceEq, Nat.reduceEqDiff, h0]; rfl) (Wo_box (lo := s.next) (s0 := s) (z := [.slice p l.length cc, .int .i64 0, .int .i64 0]) (by simp only [sims, Int.reduceEq, Nat.reduceEqDiff]; rfl) rfl rfl (B1.low.skip 4) (Nat.le_trans B1.low.le (Nat.le_add_right _ _)) (by rw [next_skip]; omega) fun s2 B2 n2 f2 => Wo_all (by simp only [sims, Int.reduceEq, Nat.reduceEqDiff]; rfl) ?_)))
  rw [next_skip] at n2
  have O2 : Row s2 s.next (callZ.cells (.slice none 0 0)) := by
    obtain ⟨es, e⟩ := B1.at_
    exact ⟨es, by rw [f2 _ (by omega), get_skip]; exact e⟩
  have R2 : Rd s2 s.next (s1.next + 2) (.slice p l.length cc) l (0, 0) := ⟨B2.at_, hs.low B2.low (Nat.le_refl _), by omega, by omega, Nat.zero_le _, hl⟩
  refine W_seq (W_ops (Wo_alloc (lo := s.next) (s0 := s) (B2.low.skip 1) (Nat.le_trans B2.low.le (Nat.le_add_right _ _)) (by rw [next_skip]; omega) fun s5 B5 n5 f5 => Wo_nil ?_))
  rw [Nat.add_zero] at B5 f5
  rw [next_skip] at n5
  have K5 : But s2.next s2 s5 := ⟨by omega, fun b hb hne => by rw [f5 _ hne, get_skip]⟩
  refine W_gen (T := [(4, ptr (s1.next + 2) 0), (5, ptr s2.next 0), (2, ptr s.next 0)]) (all_cons (by simp only [sims, Int.reduceEq, Nat.reduceEqDiff]) (all_cons (by simp only [sims, Int.reduceEq, Nat.reduceEqDiff]) (all_cons (by simp only [sims, Int.reduceEq, Nat.reduceEqDiff]) all_nil))) fun fr5 h5 => ?_
  have G0 : Gt s 4 5 2 s.next (s1.next + 2) s2.next s.next (.slice p l.length cc) l (callZ.cells (.slice none 0 0)) fr5 s5 (0, 0) (callZ.cells (.slice none 0 0)) :=
    { r := h5 _ (.head _), b := h5 _ (.tail _ (.head _)), o := h5 _ (.tail _ (.tail _ (.head _))), rd := R2.but K5 (by omega) (by omega), box := B5.at_, out := O2.but K5 (by omega) (by omega),
      ac := by omega, ad := by omega, cd := by omega, hc := by omega, hd := by omega, mc := by omega, mh := by omega, keep := (B2.low.but _).over K5 (by omega) }
  clear h5
  refine W_seq (G0.val (ws := []) (y := (gc1 l).2) hC._tithing_tithingref26_reader_text.prim (fun _ => rfl) (reftext_run hC hC._tithing_tithingref26_reader_text G0.rd) rfl rfl (le_by rfl) (by decide) fun _ _ _ G => ?_)
  refine W_seq (G.val (ws := []) (y := (gc2 l).2) hC._tithing_tithingref26_reader_four.prim (fun _ => rfl) (reffour_run hC hC._tithing_tithingref26_reader_four G.rd) rfl rfl (le_by rfl) (by decide) fun _ _ _ G => ?_)
  refine W_seq (G.val (ws := []) (y := (gc3 l).2) hC._tithing_tithingref26_reader_four.prim (fun _ => rfl) (reffour_run hC hC._tithing_tithingref26_reader_four G.rd) rfl rfl (le_by rfl) (by decide) fun _ _ _ G => ?_)
  refine W_seq (G.val (ws := []) (y := (gc4 l).2) hC._tithing_tithingref26_reader_four.prim (fun _ => rfl) (reffour_run hC hC._tithing_tithingref26_reader_four G.rd) rfl rfl (le_by rfl) (by decide) fun _ _ _ G => ?_)
  refine W_seq (G.val (ws := []) (y := (gc5 l).2) hC._tithing_tithingref26_reader_four.prim (fun _ => rfl) (reffour_run hC hC._tithing_tithingref26_reader_four G.rd) rfl rfl (le_by rfl) (by decide) fun _ _ _ G => ?_)
  refine W_seq (G.val (ws := []) (y := (gc6 l).2) hC._tithing_tithingref26_reader_four.prim (fun _ => rfl) (reffour_run hC hC._tithing_tithingref26_reader_four G.rd) rfl rfl (le_by rfl) (by decide) fun _ _ _ G => ?_)
  refine W_seq (G.val (ws := []) (y := (gc7 l).2) hC._tithing_tithingref26_reader_text.prim (fun _ => rfl) (reftext_run hC hC._tithing_tithingref26_reader_text G.rd) rfl rfl (le_by rfl) (by decide) fun _ _ _ G => ?_)
  refine W_seq (G.val (ws := []) (y := (gc8 l).2) hC._tithing_tithingref26_reader_text.prim (fun _ => rfl) (reftext_run hC hC._tithing_tithingref26_reader_text G.rd) rfl rfl (le_by rfl) (by decide) fun fr6 s6 _ G6 => ?_)
  have G6 : Gt s 4 5 2 s.next (s1.next + 2) s2.next s.next (.slice p l.length cc) l (callZ.cells (.slice none 0 0)) fr6 s6 (gc8 l).2
    (CallC.cells ⟨(gc1 l).1, (gc2 l).1, (gc3 l).1, (gc7 l).1, (gc8 l).1, (gc4 l).1, (gc5 l).1, (gc6 l).1, false, false, false, false, 0, 0, 0, 0, 0, false⟩ (.slice none 0 0)) := G6
  clear G0
  have k4 := G6.r
  have k5 := G6.b
  have k2 := G6.o
  first | refine W_seq (W_opsM (Wo_run (by simp only [sims, Int.reduceEq, Nat.reduceEqDiff, k4]; rfl) (Wo_call hC._tithing_tithingref26_reader_number.prim (by simp only [sims, Int.reduceEq, Nat.reduceEqDiff, k4]; try rfl) ((refnumber_run hC hC._tithing_tithingref26_reader_number G6.rd (n := 1) (by decide)).mono ?_)))) | refine W_seq (W_ops (Wo_run (by simp only [sims, Int.reduceEq, Nat.reduceEqDiff, k4]; rfl) (Wo_call hC._tithing_tithingref26_reader_number.prim (by simp only [sims, Int.reduceEq, Nat.reduceEqDiff, k4]; try rfl) ((refnumber_run hC hC._tithing_tithingref26_reader_number G6.rd (n := 1) (by decide)).mono ?_))))
  rintro _ s7 ⟨rfl, R7, B7⟩
  have G7 := G6.go R7 B7
  refine Wo_all (by simp only [sims, Int.reduceEq, Nat.reduceEqDiff]; rfl) ?_
  have hm := fxP_lt l 1 (gc8 l).2
  have dm : decide ((((fxP l 1 (gc8 l).2).1 : Nat) : Int) < 16) = decide ((fxP l 1 (gc8 l).2).1 ≤ 15) := decide_eq_decide.2 (by omega)
  first | refine W_seq (W_opsM (Wo_run (by simp only [sims, Int.reduceEq, Nat.reduceEqDiff, k4, dm]; rfl) (Wo_call hC._tithing_tithingref26_reader_check.prim (by simp only [sims, Int.reduceEq, Nat.reduceEqDiff, k4, dm]; try rfl) ((check_run hC._tithing_tithingref26_reader_check R7 (decide ((fxP l 1 (gc8 l).2).1 ≤ 15)) 3).mono ?_)))) | refine W_seq (W_ops (Wo_run (by simp only [sims, Int.reduceEq, Nat.reduceEqDiff, k4, dm]; rfl) (Wo_call hC._tithing_tithingref26_reader_check.prim (by simp only [sims, Int.reduceEq, Nat.reduceEqDiff, k4, dm]; try rfl) ((check_run hC._tithing_tithingref26_reader_check R7 (decide ((fxP l 1 (gc8 l).2).1 ≤ 15)) 3).mono ?_))))
  have hc9 : chkP (decide ((fxP l 1 (gc8 l).2).1 ≤ 15)) 3 (fxP l 1 (gc8 l).2).2 = gcx l := by
    show _ = (msP l 15 (gc8 l).2).2
    unfold msP
    by_cases hq : (fxP l 1 (gc8 l).2).1 ≤ 15
    · rw [decide_eq_true hq, chkP_true, if_neg (by omega)]
    · rw [decide_eq_false hq, chkP_false, if_pos (by omega)]
  rw [hc9]
  rintro _ s7' ⟨R7', B7'⟩
  have G7 := G7.go R7' B7'
  refine Wo_nil ?_
  show W E _ _ s7' _
  have e9 : (fxP l 1 (gc8 l).2).1 = (gc9 l).1 := rfl
  rw [e9] at hm ⊢
  have m0 : binOp .rem (.int .i64 ((gc9 l).1 : Nat)) (.int .i64 2) = some (.int .i64 (((gc9 l).1 / 2 ^ 0 % 2 : Nat) : Int)) := by rw [Nat.pow_zero, Nat.div_one]; exact rem_nat _ 2 (by decide) (by omega)
  have q1 : binOp .quo (.int .i64 ((gc9 l).1 : Nat)) (.int .i64 2) = some (.int .i64 (((gc9 l).1 / 2 ^ 1 : Nat) : Int)) := quo_nat _ 2 (by decide) (by omega)
  have q2 : binOp .quo (.int .i64 ((gc9 l).1 : Nat)) (.int .i64 4) = some (.int .i64 (((gc9 l).1 / 2 ^ 2 : Nat) : Int)) := quo_nat _ 4 (by decide) (by omega)
  have q3 : binOp .quo (.int .i64 ((gc9 l).1 : Nat)) (.int .i64 8) = some (.int .i64 (((gc9 l).1 / 2 ^ 3 : Nat) : Int)) := quo_nat _ 8 (by decide) (by omega)
  have mk : ∀ n : Nat, n < 256 → binOp .rem (.int .i64 (n : Nat)) (.int .i64 2) = some (.int .i64 ((n % 2 : Nat) : Int)) := fun n h => rem_nat _ 2 (by decide) (by omega)
  have m1 := mk ((gc9 l).1 / 2 ^ 1) (Nat.lt_of_le_of_lt (Nat.div_le_self _ _) hm)
  have m2 := mk ((gc9 l).1 / 2 ^ 2) (Nat.lt_of_le_of_lt (Nat.div_le_self _ _) hm)
  have m3 := mk ((gc9 l).1 / 2 ^ 3) (Nat.lt_of_le_of_lt (Nat.div_le_self _ _) hm)
  clear mk
  have hfil4 : ∀ b0 b1 b2 b3 : Bool, fillL [(0, 1, .bool b0), (1, 1, .bool b1), (2, 1, .bool b2), (3, 1, .bool b3)] [.bool false, .bool false, .bool false, .bool false] = some [.bool b0, .bool b1, .bool b2, .bool b3] := fun _ _ _ _ => rfl
  have hl4 : ∀ b0 b1 b2 b3 : Value, Nat.beq (lenL [b0, b1, b2, b3]) 4 = true := fun _ _ _ _ => rfl
  obtain ⟨s8, p8, G8, -⟩ := G7.put (i := 8) (vs := [.bool (bit (gc9 l).1 0), .bool (bit (gc9 l).1 1), .bool (bit (gc9 l).1 2), .bool (bit (gc9 l).1 3)]) (le_by rfl)
  refine W_seq (W_region (by simp only [sims, Int.reduceEq, Nat.reduceEqDiff, k5, m0, q1, q2, q3, m1, m2, m3, bit_mod, hfil4, hl4, p8]; rfl) ?_)
  refine W_gen (T := [(4, ptr (s1.next + 2) 0), (5, ptr s2.next 0), (2, ptr s.next 0)]) (all_cons (by simp only [sims, Int.reduceEq, Nat.reduceEqDiff, k4]) (all_cons (by simp only [sims, Int.reduceEq, Nat.reduceEqDiff, k5]) (all_cons (by simp only [sims, Int.reduceEq, Nat.reduceEqDiff, k2]) all_nil))) fun fr8 h8 => ?_
  have G8 : Gt s 4 5 2 s.next (s1.next + 2) s2.next s.next (.slice p l.length cc) l (callZ.cells (.slice none 0 0)) fr8 s8 (gcx l)
    (CallC.cells ⟨(gc1 l).1, (gc2 l).1, (gc3 l).1, (gc7 l).1, (gc8 l).1, (gc4 l).1, (gc5 l).1, (gc6 l).1, bit (gc9 l).1 0, bit (gc9 l).1 1, bit (gc9 l).1 2, bit (gc9 l).1 3, 0, 0, 0, 0, 0, false⟩ (.slice none 0 0)) :=
    { G8 with r := h8 _ (.head _), b := h8 _ (.tail _ (.head _)), o := h8 _ (.tail _ (.tail _ (.head _))) }
  clear h8 G7 G6
  have lenR := rtR_len l (gcx l)
  refine W_seq (G8.field (ws := []) (P := fun r _ => r = .agg ⟨rtR l (gcx l)⟩) hC._tithing_tithingref26_reader_rights.prim (fun _ => rfl) (refrights_run hC hC._tithing_tithingref26_reader_rights G8.rd (Nat.le_trans G8.rd.ge (Nat.le_of_lt G8.rd.lt))) (by rintro _ _ rfl; exact ⟨stor_agg _, by rw [vcells_agg]; exact lenR⟩) (le_by rfl) (by decide) ?_)
  rintro _ fr9 s8' s9 rfl _ _ G9
  rw [vcells_agg] at G9
  have hlen9 : (splice (CallC.cells ⟨(gc1 l).1, (gc2 l).1, (gc3 l).1, (gc7 l).1, (gc8 l).1, (gc4 l).1, (gc5 l).1, (gc6 l).1, bit (gc9 l).1 0, bit (gc9 l).1 1, bit (gc9 l).1 2, bit (gc9 l).1 3, 0, 0, 0, 0, 0, false⟩ (.slice none 0 0)) 12 (rtR l (gcx l))).length = 19 := splice_length _ _ _ (by rw [lenR]; exact le_by rfl)
  have hgood : gcE l = 0 → splice (CallC.cells ⟨(gc1 l).1, (gc2 l).1, (gc3 l).1, (gc7 l).1, (gc8 l).1, (gc4 l).1, (gc5 l).1, (gc6 l).1, bit (gc9 l).1 0, bit (gc9 l).1 1, bit (gc9 l).1 2, bit (gc9 l).1 3, 0, 0, 0, 0, 0, false⟩ (.slice none 0 0)) 12 (rtR l (gcx l)) = (getC l).cells (.slice none 0 0) := by
    intro h
    rw [show rtR l (gcx l) = rtV l (gcx l) from if_pos (gcE_ok h)]
    exact splice_rights _ _ _ _ _ _ _ _ _ _ _ _ _ _ _ _ _ _ _
  generalize splice (CallC.cells ⟨(gc1 l).1, (gc2 l).1, (gc3 l).1, (gc7 l).1, (gc8 l).1, (gc4 l).1, (gc5 l).1, (gc6 l).1, bit (gc9 l).1 0, bit (gc9 l).1 1, bit (gc9 l).1 2, bit (gc9 l).1 3, 0, 0, 0, 0, 0, false⟩ (.slice none 0 0)) 12 (rtR l (gcx l)) = cs9 at G9 hlen9 hgood
  refine W_seq (G9.field (ws := [.int .i64 (200 : Nat)]) (P := fun r s' => Mid s' s9.next s'.next 1 r ((gc10 l).1.map ofByte)) hC._tithing_tithingref26_reader_sized.prim (fun _ => rfl) ((sized_run hC hC._tithing_tithingref26_reader_sized G9.rd (n := 200) (by decide)).mono fun r s' h => ⟨h.2.2, h.1, h.2.1⟩) (by rintro r s' h; exact ⟨h.cells.1, by rw [h.cells.2]; rfl⟩) (by rw [hlen9]; decide) (by decide) ?_)
  rintro w fr10 s9' s10 gw Bw _ G10
  rw [gw.cells.2] at G10
  have G10 : Gt s 4 5 2 s.next (s1.next + 2) s2.next s.next (.slice p l.length cc) l (callZ.cells (.slice none 0 0)) fr10 s10 (gc10 l).2 (splice cs9 18 [w]) := G10
  have gw := (gw.but Bw (Nat.le_refl _) (.inl G9.hc)).wide Bw.1
  have q4 := G10.r
  have q5 := G10.b
  have q2 := G10.o
  first | refine W_seq (W_seq (W_opsM (Wo_run (by simp only [sims, Int.reduceEq, Nat.reduceEqDiff, q4]; rfl) (Wo_call hC._tithing_tithingref26_reader_end.prim (by simp only [sims, Int.reduceEq, Nat.reduceEqDiff, q4]; try rfl) ((refend_run hC hC._tithing_tithingref26_reader_end G10.rd).mono ?_))))) | refine W_seq (W_seq (W_ops (Wo_run (by simp only [sims, Int.reduceEq, Nat.reduceEqDiff, q4]; rfl) (Wo_call hC._tithing_tithingref26_reader_end.prim (by simp only [sims, Int.reduceEq, Nat.reduceEqDiff, q4]; try rfl) ((refend_run hC hC._tithing_tithingref26_reader_end G10.rd).mono ?_)))))
  rintro _ s11 ⟨rfl, R11, B11⟩
  have G11 := G10.go R11 B11
  have gw := (gw.but B11 (Nat.le_refl _) (.inl G9.rd.lt)).wide B11.1
  refine Wo_all (by simp only [sims, Int.reduceEq, Nat.reduceEqDiff]; rfl) ?_
  have hE : (enP l (gc10 l).2).2 = gcE l := rfl
  rw [hE]
  by_cases he : gcE l = 0
  · refine W_seq (W_region (by simp only [sims, Int.reduceEq, Nat.reduceEqDiff, he]; rfl) ?_)
    refine W_else (by simp only [sims, Int.reduceEq, Nat.reduceEqDiff]) (W_skip ?_)
    have hcs : splice cs9 18 [w] = (getC l).cells w := by
      rw [hgood he]
      have := splice_data (getC l) (.slice none 0 0) w gw.cells.2
      rwa [gw.cells.2] at this
    rw [hcs] at G11
    have rw11 : s11.row ⟨s2.next, 0, none⟩ 19 = some ((getC l).cells w) := G11.box.row rfl
    obtain ⟨u, pu, U, nu, fu⟩ := G11.out.put (o := 0) (vs := (getC l).cells w) (Nat.le_refl _)
    have U : Row u s.next ((getC l).cells w) := U
    have BU := but_put nu fu
    have hl19' : Nat.beq (lenL ((getC l).cells w)) 19 = true := rfl
    refine W_seq (W_region (by simp only [sims, Int.reduceEq, Nat.reduceEqDiff, q2, q5, rw11, hl19', pu]; rfl) ?_)
    refine W_ret ⟨rfl, _, res_cell (by simp only [sims, Int.reduceEq, Nat.reduceEqDiff, q2]) (U.row rfl) (res_tmp res_nil), (G11.keep.over BU (Nat.le_refl _)).new (by omega), .inr ⟨he, w, ?_, ((gw.but BU (Nat.le_refl _) (.inl G9.hd)).wide BU.1).weak G9.keep.1⟩⟩
    show tupled [_, orUndef (Tr.get _ 3)] = _
    rw [Tr.get_set_same]; rfl
  · have d : decide (gcE l = 0) = false := decide_eq_false he
    refine W_seq (W_region (by simp only [sims, Int.reduceEq, Nat.reduceEqDiff, d]; rfl) ?_)
    refine W_then (by simp only [sims, Int.reduceEq, Nat.reduceEqDiff]) ?_
    obtain ⟨u, pu, U, nu, fu⟩ := G11.out.put (o := 0) (vs := callZ.cells (.slice none 0 0)) (Nat.le_refl _)
    have U : Row u s.next (callZ.cells (.slice none 0 0)) := U
    have BU := but_put nu fu
    have hl19' : Nat.beq (lenL (callZ.cells (.slice none 0 0))) 19 = true := rfl
    refine W_seq (W_ops (Wo_build (l := callZ.cells (.slice none 0 0)) rfl (Wo_all (by simp only [sims, Int.reduceEq, Nat.reduceEqDiff, q2, hl19', pu]; rfl) ?_)))
    refine W_ret ⟨rfl, _, res_cell (by simp only [sims, Int.reduceEq, Nat.reduceEqDiff, q2]) (U.row rfl) (res_tmp res_nil), (G11.keep.over BU (Nat.le_refl _)).new (by omega), .inl ⟨he, ?_⟩⟩
    show tupled [_, orUndef (Tr.get _ 3)] = _
    rw [Tr.get_set_same]; rfl
end
end
end Go.Ev
