/-
  A reader and a row that is filled: rights, calls.
-/
import Derived.Test.YtmpckglmfklfiaaGreatDoorCdRead
set_option linter.unusedVariables false
set_option linter.unusedSimpArgs false
namespace Go.Ev
open Int renaming reduceEq → rI
open Nat renaming reduceEqDiff → rN
noncomputable section
theorem But.over {a b : Nat} {s t u : St} (h : But a s t) (k : But b t u) (hb : s.next ≤ b) : But a s u :=
  ⟨Nat.le_trans h.1 k.1, fun c hc hca => (k.2 c (Nat.lt_of_lt_of_le hc h.1) (by omega)).trans (h.2 c hc hca)⟩
structure Gt (s0 : St) (tr tb to_ hi a c d : Nat) (v : Value) (l : List UInt8) (zs : List Value) (fr : Fr) (s : St) (x : Nat × Int) (cs : List Value) : Prop where
  r : fr.get tr = some (ptr a 0)
  b : fr.get tb = some (ptr c 0)
  o : fr.get to_ = some (ptr d 0)
  rd : Rd s hi a v l x
  box : Row s c cs
  out : Row s d zs
  ac : a ≠ c
  ad : a ≠ d
  cd : c ≠ d
  hc : c < s.next
  hd : d < s.next
  mc : s0.next ≤ c
  mh : hi ≤ s0.next
  keep : But a s0 s
section
variable {E : Env} {s0 s : St} {tr tb to_ hi a c d : Nat} {v : Value} {l : List UInt8} {zs cs : List Value} {fr : Fr} {x y : Nat × Int} {Q : Ex → Fr → St → Prop}
theorem Gt.frm (G : Gt s0 tr tb to_ hi a c d v l zs fr s x cs) {fr' : Fr} (h : fr'.get tr = fr.get tr ∧ fr'.get tb = fr.get tb ∧ fr'.get to_ = fr.get to_) : Gt s0 tr tb to_ hi a c d v l zs fr' s x cs :=
  { G with r := h.1.trans G.r, b := h.2.1.trans G.b, o := h.2.2.trans G.o }
theorem Gt.go (G : Gt s0 tr tb to_ hi a c d v l zs fr s x cs) {s' : St} (R : Rd s' hi a v l y) (B : But a s s') : Gt s0 tr tb to_ hi a c d v l zs fr s' y cs :=
  { G with rd := R, box := G.box.but B G.hc (Ne.symm G.ac), out := G.out.but B G.hd (Ne.symm G.ad), hc := Nat.lt_of_lt_of_le G.hc B.1, hd := Nat.lt_of_lt_of_le G.hd B.1, keep := G.keep.trans B }
theorem Gt.put (G : Gt s0 tr tb to_ hi a c d v l zs fr s x cs) {i : Nat} {vs : List Value} (hl : i + vs.length ≤ cs.length) : ∃ t, s.put ⟨c, i, none⟩ vs = some t ∧ Gt s0 tr tb to_ hi a c d v l zs fr t x (splice cs i vs) ∧ But c s t := by
  obtain ⟨t, p, R, n, f⟩ := G.box.put hl
  have B := but_put n f
  exact ⟨t, p, { G with rd := G.rd.but B G.ac (Nat.le_trans G.mh G.mc), box := R, out := G.out.but B G.hd (Ne.symm G.cd), hc := by rw [n]; exact G.hc, hd := by rw [n]; exact G.hd, keep := G.keep.over B G.mc }, B⟩
theorem Gt.field (G : Gt s0 tr tb to_ hi a c d v l zs fr s x cs) {g t1 t2 t3 i n : Nat} {xs : List Arg} {ws : List Value} {P : Value → St → Prop} (hp : E.prim g = none) (hw : ∀ fr, evL fr xs = ws)
    (h : Cv E g (ptr a 0 :: ws) s fun r s' => P r s' ∧ Rd s' hi a v l y ∧ But a s s') (hP : ∀ r s', P r s' → storable r = true ∧ (vcells r).length = n) (hi' : i + n ≤ cs.length)
    (hd : (t1 ≠ tr ∧ t1 ≠ tb ∧ t1 ≠ to_) ∧ (t2 ≠ tr ∧ t2 ≠ tb ∧ t2 ≠ to_) ∧ (t3 ≠ tr ∧ t3 ≠ tb ∧ t3 ≠ to_) ∧ t2 ≠ t1 ∧ t3 ≠ t2)
    (k : ∀ r fr' s1 s', P r s1 → But c s1 s' → (∀ t, t ≠ t1 → t ≠ t2 → t ≠ t3 → fr'.get t = fr.get t) → Gt s0 tr tb to_ hi a c d v l zs fr' s' y (splice cs i (vcells r)) → Q .normal fr' s') :
    W E (.many 0 ([⟨some t1, .mov (.t tr), none, 0, []⟩] ++ (⟨some t2, .callF g (.t t1 :: xs), none, 1, []⟩ :: [⟨some t3, .faddr i (.t tb), none, 2, []⟩, ⟨none, .store n (.t t3) (.t t2), none, 3, []⟩]))) fr s Q := by
  obtain ⟨⟨a1, a2, a3⟩, ⟨b1, b2, b3⟩, ⟨c1, c2, c3⟩, e1, e2⟩ := hd
  have hr := G.r
  have hb := G.b
  refine W_opsM (Wo_run (by simp only [sim, hr]; rfl) (Wo_call hp (args := ptr a 0 :: ws) (by simp only [sim, hw, if_true]) (h.mono ?_)))
  rintro r s1 ⟨p1, R1, B1⟩
  obtain ⟨q1, q2⟩ := hP r s1 p1
  obtain ⟨t, p2, G2, B2⟩ := (G.go R1 B1).put (i := i) (vs := vcells r) (by omega)
  have hlen : Nat.beq (lenL (vcells r)) n = true := by rw [lenL_eq, q2]; exact Nat.beq_refl n
  refine Wo_all (by simp only [sim, hb, if_neg a2, if_neg b2, if_true, if_neg e2, if_neg (Ne.symm e2), q1, hlen, Nat.zero_add, p2]; rfl) (k r _ s1 t p1 B2 ?_ (G2.frm ?_))
  · intro t h1 h2 h3
    simp only [Tr.get_set, if_neg (Ne.symm h1), if_neg (Ne.symm h2), if_neg (Ne.symm h3)]
  refine ⟨?_, ?_, ?_⟩ <;> simp only [Tr.get_set, if_neg a1, if_neg a2, if_neg a3, if_neg b1, if_neg b2, if_neg b3, if_neg c1, if_neg c2, if_neg c3]
theorem Gt.fixed (hC : Codes E) (G : Gt s0 tr tb to_ hi a c d v l zs fr s x cs) {g t1 t2 t3 i n : Nat} (hn : n = 1 ∨ n = 2 ∨ n = 4) (hg : Has E g Code._tithing_client_reader_fixed) (hi' : i + 1 ≤ cs.length)
    (hd : (t1 ≠ tr ∧ t1 ≠ tb ∧ t1 ≠ to_) ∧ (t2 ≠ tr ∧ t2 ≠ tb ∧ t2 ≠ to_) ∧ (t3 ≠ tr ∧ t3 ≠ tb ∧ t3 ≠ to_) ∧ t2 ≠ t1 ∧ t3 ≠ t2)
    (k : ∀ fr' s', (∀ t, t ≠ t1 → t ≠ t2 → t ≠ t3 → fr'.get t = fr.get t) → Gt s0 tr tb to_ hi a c d v l zs fr' s' (fxP l n x).2 (splice cs i [.int .i64 ((fxP l n x).1 : Nat)]) → Q .normal fr' s') :
    W E (.many 0 ([⟨some t1, .mov (.t tr), none, 0, []⟩] ++ (⟨some t2, .callF g [.t t1, .c (.int .i64 (n : Nat))], none, 1, []⟩ :: [⟨some t3, .faddr i (.t tb), none, 2, []⟩, ⟨none, .store 1 (.t t3) (.t t2), none, 3, []⟩]))) fr s Q :=
  G.field (ws := [.int .i64 (n : Nat)]) (P := fun r _ => r = .int .i64 ((fxP l n x).1 : Nat)) hg.prim (fun _ => rfl) (fixed_run hC hg G.rd hn) (by rintro _ _ rfl; exact ⟨rfl, rfl⟩) hi' hd (by rintro _ fr' s1 s' rfl _ hk G'; exact k fr' s' hk G')
theorem Gt.num (hC : Codes E) (G : Gt s0 tr tb to_ hi a c d v l zs fr s x cs) {g t1 t2 t3 i : Nat} (hg : Has E g Code._tithing_client_reader_number) (hi' : i + 1 ≤ cs.length)
    (hd : (t1 ≠ tr ∧ t1 ≠ tb ∧ t1 ≠ to_) ∧ (t2 ≠ tr ∧ t2 ≠ tb ∧ t2 ≠ to_) ∧ (t3 ≠ tr ∧ t3 ≠ tb ∧ t3 ≠ to_) ∧ t2 ≠ t1 ∧ t3 ≠ t2)
    (k : ∀ fr' s', (∀ t, t ≠ t1 → t ≠ t2 → t ≠ t3 → fr'.get t = fr.get t) → Gt s0 tr tb to_ hi a c d v l zs fr' s' (nmP l x).2 (splice cs i [.int .i64 (nmP l x).1]) → Q .normal fr' s') :
    W E (.many 0 ([⟨some t1, .mov (.t tr), none, 0, []⟩] ++ (⟨some t2, .callF g [.t t1], none, 1, []⟩ :: [⟨some t3, .faddr i (.t tb), none, 2, []⟩, ⟨none, .store 1 (.t t3) (.t t2), none, 3, []⟩]))) fr s Q :=
  G.field (ws := []) (P := fun r _ => r = .int .i64 (nmP l x).1) hg.prim (fun _ => rfl) (number_r_run hC hg G.rd) (by rintro _ _ rfl; exact ⟨rfl, rfl⟩) hi' hd (by rintro _ fr' s1 s' rfl _ hk G'; exact k fr' s' hk G')
theorem Gt.txt (hC : Codes E) (G : Gt s0 tr tb to_ hi a c d v l zs fr s x cs) {g t1 t2 t3 i : Nat} (hg : Has E g Code._tithing_client_reader_text) (hi' : i + 1 ≤ cs.length)
    (hd : (t1 ≠ tr ∧ t1 ≠ tb ∧ t1 ≠ to_) ∧ (t2 ≠ tr ∧ t2 ≠ tb ∧ t2 ≠ to_) ∧ (t3 ≠ tr ∧ t3 ≠ tb ∧ t3 ≠ to_) ∧ t2 ≠ t1 ∧ t3 ≠ t2)
    (k : ∀ fr' s', (∀ t, t ≠ t1 → t ≠ t2 → t ≠ t3 → fr'.get t = fr.get t) → Gt s0 tr tb to_ hi a c d v l zs fr' s' (txP l x).2 (splice cs i [strOf (txP l x).1]) → Q .normal fr' s') :
    W E (.many 0 ([⟨some t1, .mov (.t tr), none, 0, []⟩] ++ (⟨some t2, .callF g [.t t1], none, 1, []⟩ :: [⟨some t3, .faddr i (.t tb), none, 2, []⟩, ⟨none, .store 1 (.t t3) (.t t2), none, 3, []⟩]))) fr s Q :=
  G.field (ws := []) (P := fun r _ => r = strOf (txP l x).1) hg.prim (fun _ => rfl) (text_run hC hg G.rd) (by rintro _ _ rfl; exact ⟨rfl, rfl⟩) hi' hd (by rintro _ fr' s1 s' rfl _ hk G'; exact k fr' s' hk G')
theorem Gt.most (hC : Codes E) (G : Gt s0 tr tb to_ hi a c d v l zs fr s x cs) {g t1 t2 t3 i n : Nat} (hn : n ≤ 65535) (hg : Has E g Code._tithing_client_reader_most) (hi' : i + 1 ≤ cs.length)
    (hd : (t1 ≠ tr ∧ t1 ≠ tb ∧ t1 ≠ to_) ∧ (t2 ≠ tr ∧ t2 ≠ tb ∧ t2 ≠ to_) ∧ (t3 ≠ tr ∧ t3 ≠ tb ∧ t3 ≠ to_) ∧ t2 ≠ t1 ∧ t3 ≠ t2)
    (k : ∀ fr' s', (∀ t, t ≠ t1 → t ≠ t2 → t ≠ t3 → fr'.get t = fr.get t) → Gt s0 tr tb to_ hi a c d v l zs fr' s' (msP l n x).2 (splice cs i [.int .i64 ((msP l n x).1 : Nat)]) → Q .normal fr' s') :
    W E (.many 0 ([⟨some t1, .mov (.t tr), none, 0, []⟩] ++ (⟨some t2, .callF g [.t t1, .c (.int .i64 (n : Nat))], none, 1, []⟩ :: [⟨some t3, .faddr i (.t tb), none, 2, []⟩, ⟨none, .store 1 (.t t3) (.t t2), none, 3, []⟩]))) fr s Q :=
  G.field (ws := [.int .i64 (n : Nat)]) (P := fun r _ => r = .int .i64 ((msP l n x).1 : Nat)) hg.prim (fun _ => rfl) (most_run hC hg G.rd hn) (by rintro _ _ rfl; exact ⟨rfl, rfl⟩) hi' hd (by rintro _ fr' s1 s' rfl _ hk G'; exact k fr' s' hk G')
theorem Gt.flag (hC : Codes E) (G : Gt s0 tr tb to_ hi a c d v l zs fr s x cs) {g t1 t2 t3 t4 i n : Nat} (hn : n ≤ 65535) (hg : Has E g Code._tithing_client_reader_most) (hi' : i + 1 ≤ cs.length)
    (hd : (t1 ≠ tr ∧ t1 ≠ tb ∧ t1 ≠ to_) ∧ (t2 ≠ tr ∧ t2 ≠ tb ∧ t2 ≠ to_) ∧ (t3 ≠ tr ∧ t3 ≠ tb ∧ t3 ≠ to_) ∧ (t4 ≠ tr ∧ t4 ≠ tb ∧ t4 ≠ to_) ∧ t4 ≠ t3)
    (k : ∀ fr' s', (∀ t, t ≠ t1 → t ≠ t2 → t ≠ t3 → t ≠ t4 → fr'.get t = fr.get t) → Gt s0 tr tb to_ hi a c d v l zs fr' s' (msP l n x).2 (splice cs i [.bool (decide ((msP l n x).1 = 1))]) → Q .normal fr' s') :
    W E (.many 0 ([⟨some t1, .mov (.t tr), none, 0, []⟩] ++ (⟨some t2, .callF g [.t t1, .c (.int .i64 (n : Nat))], none, 1, []⟩ :: [⟨some t3, .bin .eql (.t t2) (.c (.int .i64 1)), none, 2, []⟩, ⟨some t4, .faddr i (.t tb), none, 3, []⟩, ⟨none, .store 1 (.t t4) (.t t3), none, 4, []⟩]))) fr s Q := by
  obtain ⟨⟨a1, a2, a3⟩, ⟨b1, b2, b3⟩, ⟨c1, c2, c3⟩, ⟨d1, d2, d3⟩, e1⟩ := hd
  have hr := G.r
  have hb := G.b
  refine W_opsM (Wo_run (by simp only [sim, hr]; rfl) (Wo_call hg.prim (args := [ptr a 0, .int .i64 (n : Nat)]) (by simp only [sim, if_true]) ((most_run hC hg G.rd hn).mono ?_)))
  rintro _ s1 ⟨rfl, R1, B1⟩
  have e2 : decide ((((msP l n x).1 : Nat) : Int) = 1) = decide ((msP l n x).1 = 1) := decide_eq_decide.2 (by omega)
  obtain ⟨t, p2, G2, B2⟩ := (G.go R1 B1).put (i := i) (vs := [.bool (decide ((msP l n x).1 = 1))]) hi'
  refine Wo_all (by simp only [sim, hb, e2, if_neg a2, if_neg b2, if_neg c2, if_true, if_neg e1, if_neg (Ne.symm e1), Nat.zero_add, p2]; rfl) (k _ t ?_ (G2.frm ?_))
  · intro t h1 h2 h3 h4
    simp only [Tr.get_set, if_neg (Ne.symm h1), if_neg (Ne.symm h2), if_neg (Ne.symm h3), if_neg (Ne.symm h4)]
  refine ⟨?_, ?_, ?_⟩ <;> simp only [Tr.get_set, if_neg a1, if_neg a2, if_neg a3, if_neg b1, if_neg b2, if_neg b3, if_neg c1, if_neg c2, if_neg c3, if_neg d1, if_neg d2, if_neg d3]
end
/- Rights, one part after the other. -/
def rt1 (l : List UInt8) (x : Nat × Int) := fxP l 4 x
def rt2 (l : List UInt8) (x : Nat × Int) := fxP l 4 (rt1 l x).2
def rt3 (l : List UInt8) (x : Nat × Int) := msP l 7 (rt2 l x).2
def rt4 (l : List UInt8) (x : Nat × Int) := msP l 7 (rt3 l x).2
def rt5 (l : List UInt8) (x : Nat × Int) := msP l 7 (rt4 l x).2
def rt6 (l : List UInt8) (x : Nat × Int) := msP l 1 (rt5 l x).2
def rtV (l : List UInt8) (x : Nat × Int) : List Value := rightsC ((rt1 l x).1 : Nat) ((rt2 l x).1 : Nat) ((rt3 l x).1 : Nat) ((rt4 l x).1 : Nat) ((rt5 l x).1 : Nat) (decide ((rt6 l x).1 = 1))
theorem tkP_ok {l : List UInt8} {n : Nat} {x : Nat × Int} (h : (tkP l n x).2.2 = 0) : x.2 = 0 := by
  unfold tkP at h
  split at h
  · assumption
  · exact h
theorem failP_no (x : Nat × Int) : (failP x).2 ≠ 0 := by
  unfold failP
  split
  · exact fun h => absurd h (by decide : ¬ ((3 : Int) = 0))
  · assumption
theorem msP_ok {l : List UInt8} {n : Nat} {x : Nat × Int} (h : (msP l n x).2.2 = 0) : (msP l n x).1 ≤ n ∧ x.2 = 0 := by
  unfold msP at h ⊢
  simp only at h ⊢
  split at h
  · exact absurd h (failP_no _)
  · exact ⟨by omega, tkP_ok (n := 1) h⟩
theorem rt_valid {l : List UInt8} {x : Nat × Int} (h : (rt6 l x).2.2 = 0) : validR ((rt1 l x).1 : Nat) ((rt2 l x).1 : Nat) ((rt3 l x).1 : Nat) ((rt4 l x).1 : Nat) ((rt5 l x).1 : Nat) := by
  have h6 := msP_ok h
  have h5 := msP_ok h6.2
  have h4 := msP_ok h5.2
  have h3 := msP_ok h4.2
  have b5 : (rt5 l x).1 ≤ 7 := h5.1
  have b4 : (rt4 l x).1 ≤ 7 := h4.1
  have b3 : (rt3 l x).1 ≤ 7 := h3.1
  unfold validR
  omega
section
variable {E : Env} {f : FuncId} {s t : St} {hi a : Nat} {v : Value} {l : List UInt8} {x : Nat × Int}
theorem rights_r_run (hC : Codes E) (hf : Has E f Code._tithing_client_reader_rights) (R : Rd s hi a v l x) (hh : hi ≤ s.next) : Cv E f [ptr a 0] s fun r s' => r = .agg ⟨rtV l x⟩ ∧ Rd s' hi a v l (rt6 l x).2 ∧ But a s s' := by
  refine Cv_of hf.code ?_
  have h0 : (Tr.ofList (.e : Fr) 0 [ptr a 0]).get 0 = some (ptr a 0) := rfl
  generalize (Tr.ofList (.e : Fr) 0 [ptr a 0]) = fr0 at h0
  unfold Code._tithing_client_reader_rights
  refine W_seq (W_ops (Wo_alloc (lo := s.next) (s0 := s) ((Low.self s).skip 1) (Nat.le_add_right _ _) (by rw [next_skip]; omega) fun s1 B1 n1 _ => Wo_nil ?_))
  refine W_seq (W_ops (Wo_alloc (lo := s.next) (s0 := s) (B1.low.skip 1) (Nat.le_trans B1.low.le (Nat.le_add_right _ _)) (by rw [next_skip]; omega) fun s2 B2 n2 f2 => Wo_nil ?_))
  rw [Nat.add_zero] at B1 B2 f2
  rw [next_skip] at n1 n2
  have O2 : Row s2 s.next [.int .i64 0, .int .i64 0, .int .i64 0, .int .i64 0, .int .i64 0, .bool false] := by
    obtain ⟨es, e⟩ := B1.at_
    exact ⟨es, by rw [f2 _ (by omega), get_skip]; exact e⟩
  have G0 : Gt s 0 3 2 hi a s1.next s.next v l [.int .i64 0, .int .i64 0, .int .i64 0, .int .i64 0, .int .i64 0, .bool false] ((fr0.set 2 (ptr (s.next + 0) 0)).set 3 (ptr (s1.next + 0) 0)) s2 x [.int .i64 0, .int .i64 0, .int .i64 0, .int .i64 0, .int .i64 0, .bool false] :=
    { r := by simp only [sims, rI, rN, h0], b := by simp only [sims, rI, rN], o := by simp only [sims, rI, rN], rd := R.low B2.low R.lt, box := B2.at_, out := O2, ac := by have := R.lt; omega, ad := by have := R.lt; omega, cd := by omega, hc := by omega, hd := by omega, mc := by omega, mh := hh, keep := B2.low.but a }
  refine W_seq (G0.fixed hC (n := 4) (by decide) hC._tithing_client_reader_fixed (le_by rfl) (by decide) fun fr1 s3 _ G1 => ?_)
  refine W_seq (G1.fixed hC (n := 4) (by decide) hC._tithing_client_reader_fixed (le_by rfl) (by decide) fun fr2 s4 _ G2 => ?_)
  refine W_seq (G2.most hC (n := 7) (by decide) hC._tithing_client_reader_most (le_by rfl) (by decide) fun fr3 s5 _ G3 => ?_)
  refine W_seq (G3.most hC (n := 7) (by decide) hC._tithing_client_reader_most (le_by rfl) (by decide) fun fr4 s6 _ G4 => ?_)
  refine W_seq (G4.most hC (n := 7) (by decide) hC._tithing_client_reader_most (le_by rfl) (by decide) fun fr5 s7 _ G5 => ?_)
  have G5 : Gt s 0 3 2 hi a s1.next s.next v l [.int .i64 0, .int .i64 0, .int .i64 0, .int .i64 0, .int .i64 0, .bool false] fr5 s7 (rt5 l x).2 (rightsC ((rt1 l x).1 : Nat) ((rt2 l x).1 : Nat) ((rt3 l x).1 : Nat) ((rt4 l x).1 : Nat) ((rt5 l x).1 : Nat) false) := G5
  have k0 := G5.r
  have k3 := G5.b
  have k2 := G5.o
  first | refine W_seq (W_opsM (Wo_run (by simp only [sims, rI, rN, k0]; rfl) (Wo_call hC._tithing_client_reader_most.prim (by simp only [sims, rI, rN, k0]; try rfl) ((most_run hC hC._tithing_client_reader_most G5.rd (n := 1) (by decide)).mono ?_)))) | refine W_seq (W_ops (Wo_run (by simp only [sims, rI, rN, k0]; rfl) (Wo_call hC._tithing_client_reader_most.prim (by simp only [sims, rI, rN, k0]; try rfl) ((most_run hC hC._tithing_client_reader_most G5.rd (n := 1) (by decide)).mono ?_))))
  rintro _ s8 ⟨rfl, R8, B8⟩
  have e1 : decide ((((msP l 1 (rt5 l x).2).1 : Nat) : Int) = 1) = decide ((rt6 l x).1 = 1) := by
    show decide ((((rt6 l x).1 : Nat) : Int) = 1) = _
    exact decide_eq_decide.2 (by omega)
  obtain ⟨s9, p9, G9, -⟩ := (G5.go R8 B8).put (i := 5) (vs := [.bool (decide ((rt6 l x).1 = 1))]) (le_by rfl)
  refine Wo_all (by simp only [sims, rI, rN, k3, e1, p9]; rfl) ?_
  have G9 : Gt s 0 3 2 hi a s1.next s.next v l [.int .i64 0, .int .i64 0, .int .i64 0, .int .i64 0, .int .i64 0, .bool false] fr5 s9 (rt6 l x).2 (rtV l x) := G9
  have c2 : s9.cell ⟨a, 2, none⟩ = some (.int .i64 (rt6 l x).2.2) := G9.rd.row.cell 2
  have rw9 : s9.row ⟨s1.next, 0, none⟩ 6 = some (rtV l x) := G9.box.row rfl
  have last : ∀ (fr : Fr) (t : St), fr.get 2 = some (ptr s.next 0) → fr.get 3 = some (ptr s1.next 0) → Low s9.next s9 t → W E (.seq (.region 0 [⟨some 35, .loadN 6 (.t 3), none, 0, []⟩, ⟨none, .store 6 (.t 2) (.t 35), none, 1, []⟩]) .ret) fr t fun e fr s' => isExit e = false ∧ ∃ m, optL (oneRes fr s') [.cell 2 true 6] = some m ∧ (tupled m = .agg ⟨rtV l x⟩ ∧ Rd s' hi a v l (rt6 l x).2 ∧ But a s s') := by
    intro fr t q2 q3 lt
    have T := G9.rd.low lt G9.rd.lt
    have O := G9.out.low lt G9.hd
    have X : t.row ⟨s1.next, 0, none⟩ 6 = some (rtV l x) := (G9.box.low lt G9.hc).row rfl
    obtain ⟨u, p, U, nu, fu⟩ := O.put (o := 0) (vs := rtV l x) (le_by rfl)
    have U : Row u s.next (rtV l x) := U
    have BU := but_put nu fu
    have hl6 : Nat.beq (lenL (rtV l x)) 6 = true := rfl
    refine W_seq (W_region (by simp only [sims, rI, rN, q2, q3, X, hl6, p]; rfl) (W_ret ⟨rfl, _, res_cell (by simp only [sims, rI, rN, q2]) (U.row rfl) res_nil, rfl, T.but BU (Ne.symm (Nat.ne_of_gt R.lt)) hh, ?_⟩))
    exact ((G9.keep.trans (lt.but a)).over BU (Nat.le_refl _))
  by_cases he : (rt6 l x).2.2 = 0
  · have hv := decide_eq_true (rt_valid he)
    refine W_seq (W_seq (W_opsM (Wo_run (by simp only [sims, rI, rN, k0, k3, c2, nilOk_ptr, he, rw9]; rfl) (Wo_gt (by simp only [sims, rI, rN, wanted_some]) (Wo_call hC.rights_Valid.prim (args := [.agg ⟨rtV l x⟩]) (by simp only [sims, rI, rN]) ((Valid_run hC hC.rights_Valid).mono ?_))))))
    rintro _ s10 ⟨rfl, l10⟩
    rw [hv]
    refine Wo_all (by simp only [sims, rI, rN]; rfl) ?_
    refine W_else (by simp only [sims, rI, rN]) (W_skip ?_)
    exact last _ s10 (by simp only [sims, rI, rN, k2]) (by simp only [sims, rI, rN, k3]) l10
  · have d : decide ((rt6 l x).2.2 = 0) = false := decide_eq_false he
    refine W_seq (W_seq (W_opsM (Wo_run (by simp only [sims, rI, rN, k0, k3, c2, nilOk_ptr, d]; rfl) (Wo_gf (by simp only [sims, rI, rN, wanted_some]) (Wo_all (by simp only [sims, rI, rN]; rfl) ?_)))))
    refine W_else (by simp only [sims, rI, rN]) (W_skip ?_)
    exact last _ s9 (by simp only [sims, rI, rN, k2]) (by simp only [sims, rI, rN, k3]) (Low.self _)
end
end
end Go.Ev
