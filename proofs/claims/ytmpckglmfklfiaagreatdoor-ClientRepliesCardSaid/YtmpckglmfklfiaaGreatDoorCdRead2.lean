/-
  A reader and a row that is filled: rights, calls.
-/
import Derived.Test.YtmpckglmfklfiaaGreatDoorCdRead
set_option linter.unusedVariables false
set_option linter.unusedSimpArgs false
namespace Go.Ev
noncomputable section
theorem But.over {a b : Nat} {s t u : St} (h : But a s t) (k : But b t u) (hb : s.next ≤ b) : But a s u :=
  ⟨Nat.le_trans h.1 k.1, fun c hc hca => (k.2 c (Nat.lt_of_lt_of_le hc h.1) (by omega)).trans (h.2 c hc hca)⟩
structure Gt (s0 : St) (tr tb to_ hi a c d : Nat) (v : Value) (l : List UInt8) (zs : List Value) (fr : Fr) (s : St) (x : Nat × Int) (cs : List Value) : Prop where
  r : fr.get tr = some (ptr a 0)
  b : fr.get tb = some (ptr c 0)
  o : fr.get to_ = some (ptr d 0)
  rd : Rd s hi a v l x
  box : Row s c cs
  out : Row s d zs
  ac : a ≠ c
  ad : a ≠ d
  cd : c ≠ d
  hc : c < s.next
  hd : d < s.next
  mc : s0.next ≤ c
  mh : hi ≤ s0.next
  keep : But a s0 s
section
variable {E : Env} {s0 s : St} {tr tb to_ hi a c d : Nat} {v : Value} {l : List UInt8} {zs cs : List Value} {fr : Fr} {x y : Nat × Int} {Q : Ex → Fr → St → Prop}
theorem Gt.frm (G : Gt s0 tr tb to_ hi a c d v l zs fr s x cs) {fr' : Fr} (h : fr'.get tr = fr.get tr ∧ fr'.get tb = fr.get tb ∧ fr'.get to_ = fr.get to_) : Gt s0 tr tb to_ hi a c d v l zs fr' s x cs :=
  { G with r := h.1.trans G.r, b := h.2.1.trans G.b, o := h.2.2.trans G.o }
theorem Gt.go (G : Gt s0 tr tb to_ hi a c d v l zs fr s x cs) {s' : St} (R : Rd s' hi a v l y) (B : But a s s') : Gt s0 tr tb to_ hi a c d v l zs fr s' y cs :=
  { G with rd := R, box := G.box.but B G.hc (Ne.symm G.ac), out := G.out.but B G.hd (Ne.symm G.ad), hc := Nat.lt_of_lt_of_le G.hc B.1, hd := Nat.lt_of_lt_of_le G.hd B.1, keep := G.keep.trans B }
theorem Gt.put (G : Gt s0 tr tb to_ hi a c d v l zs fr s x cs) {i : Nat} {vs : List Value} (hl : i + vs.length ≤ cs.length) : ∃ t, s.put ⟨c, i, none⟩ vs = some t ∧ Gt s0 tr tb to_ hi a c d v l zs fr t x (splice cs i vs) ∧ But c s t := by
  obtain ⟨t, p, R, n, f⟩ := G.box.put hl
  have B := but_put n f
  exact ⟨t, p, { G with rd := G.rd.but B G.ac (Nat.le_trans G.mh G.mc), box := R, out := G.out.but B G.hd (Ne.symm G.cd), hc := by rw [n]; exact G.hc, hd := by rw [n]; exact G.hd, keep := G.keep.over B G.mc }, B⟩
theorem Gt.field (G : Gt s0 tr tb to_ hi a c d v l zs fr s x cs) {g t1 t2 t3 i n : Nat} {xs : List Arg} {ws : List Value} {P : Value → St → Prop} (hp : E.prim g = none) (hw : ∀ fr, evL fr xs = ws)
    (h : Cv E g (ptr a 0 :: ws) s fun r s' => P r s' ∧ Rd s' hi a v l y ∧ But a s s') (hP : ∀ r s', P r s' → storable r = true ∧ (vcells r).length = n) (hi' : i + n ≤ cs.length)
    (hd : (t1 ≠ tr ∧ t1 ≠ tb ∧ t1 ≠ to_) ∧ (t2 ≠ tr ∧ t2 ≠ tb ∧ t2 ≠ to_) ∧ (t3 ≠ tr ∧ t3 ≠ tb ∧ t3 ≠ to_) ∧ t2 ≠ t1 ∧ t3 ≠ t2)
    (k : ∀ r fr' s1 s', P r s1 → But c s1 s' → (∀ t, t ≠ t1 → t ≠ t2 → t ≠ t3 → fr'.get t = fr.get t) → Gt s0 tr tb to_ hi a c d v l zs fr' s' y (splice cs i (vcells r)) → Q .normal fr' s') :
    W E (.many 0 ([⟨some t1, .mov (.t tr), none, 0, []⟩] ++ (⟨some t2, .callF g (.t t1 :: xs), none, 1, []⟩ :: [⟨some t3, .faddr i (.t tb), none, 2, []⟩, ⟨none, .store n (.t t3) (.t t2), none, 3, []⟩]))) fr s Q := by
  obtain ⟨⟨a1, a2, a3⟩, ⟨b1, b2, b3⟩, ⟨c1, c2, c3⟩, e1, e2⟩ := hd
  have hr := G.r
  have hb := G.b
  refine W_opsM (Wo_run (by simp only [sim, hr]; rfl) (Wo_call hp (args := ptr a 0 :: ws) (by simp only [sim, hw, if_true]) (h.mono ?_)))
  rintro r s1 ⟨p1, R1, B1⟩
  obtain ⟨q1, q2⟩ := hP r s1 p1
  obtain ⟨t, p2, G2, B2⟩ := (G.go R1 B1).put (i := i) (vs := vcells r) (by omega)
  have hlen : Nat.beq (lenL (vcells r)) n = true := by rw [lenL_eq, q2]; exact Nat.beq_refl n
  refine Wo_all (by simp only [sim, hb, if_neg a2, if_neg b2, if_true, if_neg e2, if_neg (Ne.symm e2), q1, hlen, Nat.zero_add, p2]; rfl) (k r _ s1 t p1 B2 ?_ (G2.frm ?_))
  · intro t h1 h2 h3
    simp only [Tr.get_set, if_neg (Ne.symm h1), if_neg (Ne.symm h2), if_neg (Ne.symm h3)]
  refine ⟨?_, ?_, ?_⟩ <;> simp only [Tr.get_set, if_neg a1, if_neg a2, if_neg a3, if_neg b1, if_neg b2, if_neg b3, if_neg c1, if_neg c2, if_neg c3]
theorem Gt.num (hC : Codes E) (G : Gt s0 tr tb to_ hi a c d v l zs fr s x cs) {g t1 t2 t3 i : Nat} (hg : Has E g Code._tithing_client_reader_number) (hi' : i + 1 ≤ cs.length)
    (hd : (t1 ≠ tr ∧ t1 ≠ tb ∧ t1 ≠ to_) ∧ (t2 ≠ tr ∧ t2 ≠ tb ∧ t2 ≠ to_) ∧ (t3 ≠ tr ∧ t3 ≠ tb ∧ t3 ≠ to_) ∧ t2 ≠ t1 ∧ t3 ≠ t2)
    (k : ∀ fr' s', (∀ t, t ≠ t1 → t ≠ t2 → t ≠ t3 → fr'.get t = fr.get t) → Gt s0 tr tb to_ hi a c d v l zs fr' s' (nmP l x).2 (splice cs i [.int .i64 (nmP l x).1]) → Q .normal fr' s') :
    W E (.many 0 ([⟨some t1, .mov (.t tr), none, 0, []⟩] ++ (⟨some t2, .callF g [.t t1], none, 1, []⟩ :: [⟨some t3, .faddr i (.t tb), none, 2, []⟩, ⟨none, .store 1 (.t t3) (.t t2), none, 3, []⟩]))) fr s Q :=
  G.field (ws := []) (P := fun r _ => r = .int .i64 (nmP l x).1) hg.prim (fun _ => rfl) (number_r_run hC hg G.rd) (by rintro _ _ rfl; exact ⟨rfl, rfl⟩) hi' hd (by rintro _ fr' s1 s' rfl _ hk G'; exact k fr' s' hk G')
theorem Gt.most (hC : Codes E) (G : Gt s0 tr tb to_ hi a c d v l zs fr s x cs) {g t1 t2 t3 i n : Nat} (hn : n ≤ 65535) (hg : Has E g Code._tithing_client_reader_most) (hi' : i + 1 ≤ cs.length)
    (hd : (t1 ≠ tr ∧ t1 ≠ tb ∧ t1 ≠ to_) ∧ (t2 ≠ tr ∧ t2 ≠ tb ∧ t2 ≠ to_) ∧ (t3 ≠ tr ∧ t3 ≠ tb ∧ t3 ≠ to_) ∧ t2 ≠ t1 ∧ t3 ≠ t2)
    (k : ∀ fr' s', (∀ t, t ≠ t1 → t ≠ t2 → t ≠ t3 → fr'.get t = fr.get t) → Gt s0 tr tb to_ hi a c d v l zs fr' s' (msP l n x).2 (splice cs i [.int .i64 ((msP l n x).1 : Nat)]) → Q .normal fr' s') :
    W E (.many 0 ([⟨some t1, .mov (.t tr), none, 0, []⟩] ++ (⟨some t2, .callF g [.t t1, .c (.int .i64 (n : Nat))], none, 1, []⟩ :: [⟨some t3, .faddr i (.t tb), none, 2, []⟩, ⟨none, .store 1 (.t t3) (.t t2), none, 3, []⟩]))) fr s Q :=
  G.field (ws := [.int .i64 (n : Nat)]) (P := fun r _ => r = .int .i64 ((msP l n x).1 : Nat)) hg.prim (fun _ => rfl) (most_run hC hg G.rd hn) (by rintro _ _ rfl; exact ⟨rfl, rfl⟩) hi' hd (by rintro _ fr' s1 s' rfl _ hk G'; exact k fr' s' hk G')
end
section
variable {E : Env} {f : FuncId} {s t : St} {hi a : Nat} {v : Value} {l : List UInt8} {x : Nat × Int}
end
end
end Go.Ev
