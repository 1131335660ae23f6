/-
  What is put behind a slice that grows: its new row; lists of lists that grow.
-/
import Derived.Test.YtoinadgkjnbejaaDoorPgHead
set_option linter.unusedVariables false
set_option linter.unusedSimpArgs false
namespace Go.Ev
noncomputable section
open Go.Pg
theorem append_own {lo size bytes tg : Nat} {s : St} {v : Value} {cs : List Value} {y : Value} {n : Nat} {new : List Value} (hz : 0 < size) (htg : esz tg = size) (h : Gr s lo size v cs) (hlo : lo ≤ s.next)
    (hn : lenOf y = some n) (h0 : n ≠ 0) (hy : s.elems size y n = some new) (hnl : new.length = n * size) (hroom : ∀ m, cs.length = m * size → (m + n) * bytes ≤ room) {v' : Value} {s' : St} (he : appendOp tg size bytes s v y = some (v', s')) : (∃ k, v' = sl s.next k) ∧ s'.next = s.next + 1 := by
  have e0 : appendOp tg size bytes s v y = appendNew tg size bytes s v n new := by
    show ob (lenOf y) (fun n => ob (s.elems size y n) fun new => appendNew tg size bytes s v n new) = _
    rw [hn, ob_some, hy, ob_some]
  rw [e0] at he
  have hb0 : Nat.beq n 0 = false := by
    cases e : Nat.beq n 0 with
    | false => rfl
    | true => rw [Nat.beq_eq] at e; exact absurd e h0
  cases h with
  | nil =>
    have hr := hroom 0 (by simp)
    have e : appendNew tg size bytes s (.slice none 0 0) n new = some (sl s.next n, s.made new tg .gr) := by
      show cnd (Nat.beq n 0) _ (must (Nat.ble ((0 + n) * bytes) room) (some (sl s.next (0 + n), s.made new tg .gr))) = _
      rw [hb0, cnd_false, Nat.ble_eq_true_of_le hr, must_true, Nat.zero_add]
    rw [e] at he
    cases he
    exact ⟨⟨_, rfl⟩, rfl⟩
  | mk hlo' hb hg hes hcn =>
    rename_i b m es
    have hr := hroom m hcn
    have e : appendNew tg size bytes s (sl b m) n new = some (sl s.next (m + n), (s.set b .dead).made (cs ++ new) (cnd (Nat.beq es tg) es size) .gr) := by
      show cnd (Nat.beq n 0) _ (must (Nat.ble ((m + n) * bytes) room) (cnd (Nat.beq open_ open_) (ob (asCells (s.get b)) fun c => cnd (Nat.beq (0 + m * size) (lenL c.1)) (appendEnd s tg size ⟨b, 0, none⟩ (m + n) new c.1 c.2.1 c.2.2) _) _)) = _
      rw [hb0, cnd_false, Nat.ble_eq_true_of_le hr, must_true, Nat.beq_refl, cnd_true, hg]
      show cnd (Nat.beq (0 + m * size) (lenL cs)) (must (Md.grows .gr) (must (Nat.beq (esz es) size) (some (sl s.next (m + n), (s.set b .dead).made (appL (dropL 0 cs) new) _ .gr)))) _ = _
      rw [lenL_eq, hcn, Nat.zero_add, Nat.beq_refl, cnd_true, hes, Nat.beq_refl]
      simp only [appL_eq, dropL_eq, List.drop_zero]
      rfl
    rw [e] at he
    cases he
    exact ⟨⟨_, rfl⟩, rfl⟩
  | ex hlo' hb hg hl hno =>
    rename_i b o m cells es md
    have hcn : ((cells.drop o).take (m * size)).length = m * size := by simp; omega
    have hr := hroom m hcn
    have hrow : s.row ⟨b, o, none⟩ (m * size) = some ((cells.drop o).take (m * size)) := row_iff.2 ⟨cells, es, md, hg, hl, rfl⟩
    have e : appendNew tg size bytes s (.slice (some ⟨b, o, none⟩) m m) n new = some (sl s.next (m + n), s.made ((cells.drop o).take (m * size) ++ new) tg .gr) := by
      show cnd (Nat.beq n 0) _ (must (Nat.ble ((m + n) * bytes) room) (appendAt tg size s (.slice (some ⟨b, o, none⟩) m m) ⟨b, o, none⟩ m m n new)) = _
      rw [hb0, cnd_false, Nat.ble_eq_true_of_le hr, must_true]
      have e1 : Nat.beq m open_ = false := by
        cases e : Nat.beq m open_ with
        | false => rfl
        | true => rw [Nat.beq_eq] at e; omega
      have e2 : Nat.ble (m + n) m = false := by
        cases e : Nat.ble (m + n) m with
        | false => rfl
        | true => rw [Nat.ble_eq] at e; omega
      unfold appendAt
      rw [e1, cnd_false, e2, cnd_false, elems_some, hrow, om_some, appL_eq]
    rw [e] at he
    cases he
    exact ⟨⟨_, rfl⟩, rfl⟩
structure Grows (s : St) (lo hi : Nat) (g : Value) (ps : List (List Ln)) : Prop where
  ok : ∃ vs : List Value, Gr s lo 1 g vs ∧ vs.length = ps.length ∧ ∀ (i : Nat) (x : Value) (l : List Ln), vs[i]? = some x → ps[i]? = some l → Mid s lo hi 1 x (l.map strOf)
  at_ : g = .slice none 0 0 ∨ ∃ b k, g = sl b k ∧ hi ≤ b
  le : hi ≤ s.next
section
variable {E : Env} {f : FuncId} {s t u : St} {hi lo a d c : Nat} {v w g : Value} {ps : List (List Ln)}
theorem Mid.two {xs : List Value} (h : Mid s lo hi 1 w xs) (k : Two a d s t) (ha : a < lo) (hd : d < lo) (hh : hi ≤ s.next) : Mid t lo hi 1 w xs := by
  obtain ⟨h1, h2⟩ := h
  refine ⟨?_, h2⟩
  cases h1 with
  | nil => exact .nil
  | mk hb hg hl hc =>
    have := h2 _ _ _ rfl
    simp only at this
    exact .mk hb (by rw [k.2 _ (by omega) (by omega) (by omega)]; exact hg) hl hc
theorem Two.low (h : Two a d s t) (ha : lo ≤ a) (hd : lo ≤ d) (hl : lo ≤ s.next) : Low lo s t := ⟨hl, h.1, fun b hb => h.2 b (by omega) (by omega) (by omega)⟩
theorem Gr.two {xs : List Value} (h : Gr s lo 1 w xs) (k : Two a d s t) (ha : a < lo) (hd : d < lo) : Gr t lo 1 w xs := by
  cases h with
  | nil => exact .nil
  | mk hlo hb hg he hn => exact .mk hlo (Nat.lt_of_lt_of_le hb k.1) (by rw [k.2 _ hb (by omega) (by omega)]; exact hg) he hn
  | ex hlo hb hg hl hn => exact .ex hlo (Nat.lt_of_lt_of_le hb k.1) (by rw [k.2 _ hb (by omega) (by omega)]; exact hg) hl hn
theorem Grows.nil (h : hi ≤ s.next) : Grows s lo hi (.slice none 0 0) [] := ⟨⟨[], .nil, rfl, by intro i x l h; simp at h⟩, .inl rfl, h⟩
theorem Grows.two (h : Grows s lo hi g ps) (k : Two a d s t) (ha : a < lo) (hd : d < lo) : Grows t lo hi g ps := by
  obtain ⟨vs, h1, h2, h3⟩ := h.ok
  exact ⟨⟨vs, h1.two k ha hd, h2, fun i x l hx hl => (h3 i x l hx hl).two k ha hd h.le⟩, h.at_, Nat.le_trans h.le k.1⟩
theorem Grows.put (h : Grows s lo hi g ps) {cs : List Value} {o L T bytes : Nat} {l : List Ln} (R : Row s d cs) (hd : d < lo) (hlo : lo ≤ s.next) (ho : o + 1 ≤ cs.length) {y x : Value} (hx : Mid s L s.next 1 x (l.map strOf)) (hL : lo ≤ L) (hg : ∀ b k, g = sl b k → b < L) (hy : Feed s 1 y [x]) (hr : (ps.length + 1) * bytes ≤ room) :
    ∃ g' s1 s2, appendOp (tag T 1) 1 bytes s g y = some (g', s1) ∧ s1.put ⟨d, o, none⟩ [g'] = some s2 ∧ Row s2 d (splice cs o [g']) ∧ Grows s2 lo s.next g' (ps ++ [l]) ∧ s2.next = s.next + 1 ∧ (∀ b k, g' = sl b k → b < s2.next) ∧ (∀ c, c < lo → c ≠ d → s2.get c = s.get c) ∧ storable g' = true ∧ vcells g' = [g'] ∧ Nat.beq (lenL [g']) 1 = true := by
  obtain ⟨vs, h1, h2, h3⟩ := h.ok
  obtain ⟨n, y1, y2, y3⟩ := hy
  have hn1 : n = 1 := by simpa using y3.symm
  subst hn1
  have hroom : ∀ m, vs.length = m * 1 → (m + 1) * bytes ≤ room := by
    intro m hm
    rw [Nat.mul_one] at hm
    rw [← hm, h2]
    exact hr
  obtain ⟨g', s1, e, g1, g2, g3⟩ := append_gr (bytes := bytes) (tg := tag T 1) (by decide) (esz_tag (by decide)) h1 hlo y1 y2 y3 hroom
  obtain ⟨⟨k', hk'⟩, hnx⟩ := append_own (bytes := bytes) (tg := tag T 1) (by decide) (esz_tag (by decide)) h1 hlo y1 (by decide) y2 y3 hroom e
  have R1 : Row s1 d cs := R.low g2 hd
  obtain ⟨s2, p, R2, n2, f2⟩ := R1.put (o := o) (vs := [g']) ho
  have B2 := but_put n2 f2
  have keep : ∀ c, c < s.next → (∀ b k, g = sl b k → c ≠ b) → c ≠ d → s2.get c = s.get c := fun c hc hb hcd => (f2 c hcd).trans (g3 c hc hb)
  have mid : ∀ {L' H : Nat} {x : Value} {xs : List Value}, Mid s L' H 1 x xs → H ≤ s.next → lo ≤ L' → (∀ b k, g = sl b k → H ≤ b ∨ b < L') → Mid s2 L' H 1 x xs := by
    intro L' H x xs hm hH hL' hb
    obtain ⟨m1, m2⟩ := hm
    refine ⟨?_, m2⟩
    cases m1 with
    | nil => exact .nil
    | mk hbk hgk hlk hck =>
      have hm := m2 _ _ _ rfl
      simp only at hm
      refine .mk hbk ?_ hlk hck
      rw [keep _ (by omega) (fun b k e => ?_) (by omega)]
      · exact hgk
      · rcases hb b k e with h | h <;> omega
  refine ⟨g', s1, s2, e, p, R2, ⟨⟨vs ++ [x], g1.but B2 hd, by simp [h2], fun i z q hz hq => ?_⟩, .inr ⟨s.next, k', hk', Nat.le_refl _⟩, by rw [n2, hnx]; omega⟩, by rw [n2, hnx], fun b k e => ?_, fun c hc hcd => (f2 c hcd).trans (g2.2.2 c hc), g1.cells.1, g1.cells.2, rfl⟩
  · by_cases hi' : i < vs.length
    · rw [List.getElem?_append_left hi'] at hz
      rw [List.getElem?_append_left (by omega)] at hq
      refine (mid (h3 i z q hz hq) h.le (Nat.le_refl _) (fun b k e => ?_)).wide h.le
      rcases h.at_ with e' | ⟨b', k'', e', hb'⟩
      · rw [e'] at e; cases e
      · rw [e'] at e; cases e; exact .inl hb'
    · have : i = vs.length := by
        have := (List.getElem?_eq_some_iff.1 hz).1
        simp at this; omega
      subst this
      rw [List.getElem?_append_right (Nat.le_refl _), Nat.sub_self] at hz
      rw [h2, List.getElem?_append_right (Nat.le_refl _), Nat.sub_self] at hq
      cases hz
      cases hq
      exact (mid hx (Nat.le_refl _) hL (fun b k e => .inr (hg b k e))).weak hL
  · rw [hk'] at e
    cases e
    rw [n2, hnx]; omega
theorem Grows.mlists (h : Grows s lo hi g ps) : MLists s lo s.next g ps := by
  obtain ⟨vs, h1, h2, h3⟩ := h.ok
  exact ⟨vs, h1.mid, h2, fun i x l hx hl => (h3 i x l hx hl).wide h.le⟩
theorem Grows.lists (h : Grows s lo hi g ps) : Lists s s.next g ps := by
  obtain ⟨vs, h1, h2, h3⟩ := h.ok
  exact ⟨vs, h1.sl, h2, fun i x l hx hl => ((h3 i x l hx hl).wide h.le).1⟩
end
end
end Go.Ev
