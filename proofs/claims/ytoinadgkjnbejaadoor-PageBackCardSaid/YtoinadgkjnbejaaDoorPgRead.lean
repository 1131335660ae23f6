/-
  The document's reader: the next line, the lines of a part, the trailer.
-/
import Derived.Test.YtoinadgkjnbejaaDoorPgLines
import Derived.Test.YtoinadgkjnbejaaDoorPgPure5
set_option linter.unusedVariables false
set_option linter.unusedSimpArgs false
namespace Go.Ev
noncomputable section
open Go.Pg
def Two (a d : Nat) (s t : St) : Prop := s.next ≤ t.next ∧ ∀ c, c < s.next → c ≠ a → c ≠ d → t.get c = s.get c
structure Rdr (s : St) (hi a : Nat) (v : Value) (ls : List Ln) (k : Nat) : Prop where
  row : Row s a [v, .int .i64 (k : Nat)]
  sl : Texts s hi v ls
  few : ls.length ≤ 100000
  sh : ∀ x ∈ ls, x.length ≤ 100000
  ge : hi ≤ a
  lt : a < s.next
  kle : k ≤ ls.length
def nx (ls : List Ln) (k : Nat) : Ln × Nat × Ln := match ls[k]? with | some x => (x, (kd x).1, (kd x).2) | none => ([], 9, [])
section
variable {E : Env} {f : FuncId} {s t u : St} {hi a d c : Nat} {v : Value} {ls : List Ln} {k : Nat}
theorem Two.refl (a d : Nat) (s : St) : Two a d s s := ⟨Nat.le_refl _, fun _ _ _ _ => rfl⟩
theorem Two.trans (h : Two a d s t) (k : Two a d t u) : Two a d s u := ⟨Nat.le_trans h.1 k.1, fun c hc ha hd => (k.2 c (Nat.lt_of_lt_of_le hc h.1) ha hd).trans (h.2 c hc ha hd)⟩
theorem Low.two (h : Low s.next s t) : Two a d s t := ⟨h.2.1, fun c hc _ _ => h.2.2 c hc⟩
theorem But.two (h : But a s t) : Two a d s t := ⟨h.1, fun c hc ha _ => h.2 c hc ha⟩
theorem Texts.two {l : List Ln} (h : Texts s hi v l) (k : Two a d s t) (h1 : hi ≤ s.next) (ha : hi ≤ a) (hd : hi ≤ d) : Texts t hi v l := by
  unfold Texts at h ⊢
  generalize l.map strOf = cs at h
  cases h with
  | nil => exact .nil
  | mk hb hg hl hc => exact .mk hb (by rw [k.2 _ (by omega) (by omega) (by omega)]; exact hg) hl hc
theorem Texts.sub {l : List Ln} (h : Texts s hi v l) (k : ∀ c, c < hi → t.get c = s.get c) : Texts t hi v l := by
  unfold Texts at h ⊢
  generalize l.map strOf = cs at h
  cases h with
  | nil => exact .nil
  | mk hb hg hl hc => exact .mk hb (by rw [k _ hb]; exact hg) hl hc
theorem Row.two {cs : List Value} {b : Nat} (h : Row s b cs) (k : Two a d s t) (hb : b < s.next) (ha : b ≠ a) (hd : b ≠ d) : Row t b cs := by
  obtain ⟨es, h⟩ := h
  exact ⟨es, by rw [k.2 b hb ha hd]; exact h⟩
theorem Rdr.slice (h : Rdr s hi a v ls k) : ∃ p c, v = .slice p ls.length c := by
  obtain ⟨p, n, c, rfl, hn⟩ := h.sl.parts
  rw [List.length_map, Nat.mul_one] at hn
  subst hn
  exact ⟨p, c, rfl⟩
theorem Rdr.low {lo : Nat} (h : Rdr s hi a v ls k) (l : Low lo s t) (hl : a < lo) : Rdr t hi a v ls k :=
  ⟨h.row.low l hl, h.sl.low l (by have := h.ge; omega), h.few, h.sh, h.ge, Nat.lt_of_lt_of_le h.lt l.2.1, h.kle⟩
theorem Rdr.but {b : Nat} (h : Rdr s hi a v ls k) (l : But b s t) (hb : a ≠ b) (hh : hi ≤ b) : Rdr t hi a v ls k :=
  ⟨h.row.but l h.lt hb, Sl.but h.sl l (by have := h.ge; have := h.lt; omega) hh, h.few, h.sh, h.ge, Nat.lt_of_lt_of_le h.lt l.1, h.kle⟩
theorem Rdr.put {j : Nat} (h : Rdr s hi a v ls k) (hr : Row t a [v, .int .i64 (j : Nat)]) (l : But a s t) (hj : j ≤ ls.length) : Rdr t hi a v ls j :=
  ⟨hr, Sl.but h.sl l (by have := h.ge; have := h.lt; omega) h.ge, h.few, h.sh, h.ge, Nat.lt_of_lt_of_le h.lt l.1, hj⟩
theorem Rdr.step (h : Rdr s hi a v ls k) (hk : k < ls.length) : ∃ t, s.put ⟨a, 1, none⟩ [.int .i64 ((k + 1 : Nat) : Int)] = some t ∧ Rdr t hi a v ls (k + 1) ∧ But a s t ∧ t.next = s.next ∧ wr .i64 ((k : Int) + 1) = ((k + 1 : Nat) : Int) := by
  have hf := h.few
  obtain ⟨t, p1, R1, n1, f1⟩ := h.row.put (o := 1) (vs := [.int .i64 ((k + 1 : Nat) : Int)]) (by simp)
  have B1 := but_put n1 f1
  exact ⟨t, p1, h.put R1 B1 hk, B1, n1, by rw [wr_i64 (by omega) (by omega)]; omega⟩
theorem put_app {L d o T bytes : Nat} {cs xs new : List Value} {u y : Value} (R : Row s d cs) (hd : d < L) (hL : L ≤ s.next) (g : Gr s L 1 u xs) (ho : o + 1 ≤ cs.length) (hy : Feed s 1 y new) (hr : (xs.length + new.length) * bytes ≤ room) :
    ∃ u' s1 s2, appendOp (tag T 1) 1 bytes s u y = some (u', s1) ∧ s1.put ⟨d, o, none⟩ [u'] = some s2 ∧ Row s2 d (splice cs o [u']) ∧ Gr s2 L 1 u' (xs ++ new) ∧ s.next ≤ s2.next ∧ (∀ c, c < L → c ≠ d → s2.get c = s.get c) ∧ storable u' = true ∧ vcells u' = [u'] ∧ Nat.beq (lenL [u']) 1 = true := by
  obtain ⟨n, h1, h2, h3⟩ := hy
  obtain ⟨u', s1, e, g1, g2, g3⟩ := append_gr (bytes := bytes) (tg := tag T 1) (by decide) (esz_tag (by decide)) g hL h1 h2 h3 (by
    intro k hk
    rw [Nat.mul_one] at hk h3
    rw [← hk, ← h3]
    exact hr)
  have R1 : Row s1 d cs := R.low g2 hd
  obtain ⟨s2, p, R2, n2, f2⟩ := R1.put (o := o) (vs := [u']) ho
  refine ⟨u', s1, s2, e, p, R2, g1.but (but_put n2 f2) hd, by rw [n2]; exact g2.2.1, fun c hc hcd => (f2 c hcd).trans (g2.2.2 c hc), g1.cells.1, g1.cells.2, rfl⟩
theorem Two.on {L : Nat} (h : Two a d s t) (hn : t.next ≤ u.next) (hL : s.next ≤ L) (k : ∀ c, c < L → c ≠ d → u.get c = t.get c) : Two a d s u :=
  ⟨Nat.le_trans h.1 hn, fun c hc ha hd => (k c (by omega) hd).trans (h.2 c hc ha hd)⟩
end
end
end Go.Ev
