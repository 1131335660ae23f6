/-
  Copies whose rows are one's own, and may be written.
-/
import Derived.Test.YtoinadgkjnbejaaDoorPgApp
import Derived.Test.YtoinadgkjnbejaaDoorPgRefParse
set_option linter.unusedVariables false
set_option linter.unusedSimpArgs false
namespace Go.Ev
noncomputable section
open Go.Pg
section
variable {E : Env} {f : FuncId} {s t u : St}
theorem Gr.at_ne {lo size a : Nat} {v : Value} {cs : List Value} (h : Gr s lo size v cs) (o : Ob) (hv : ∀ q n c, v = .slice (some q) n c → q.block ≠ a) : Gr (s.set a o) lo size v cs := by
  cases h with
  | nil => exact .nil
  | mk h1 h2 h3 h4 h5 => exact .mk h1 (by rw [St.next_set]; exact h2) (by rw [St.get_set_ne _ _ (Ne.symm (hv _ _ _ rfl))]; exact h3) h4 h5
  | ex h1 h2 h3 h4 h5 => exact .ex h1 (by rw [St.next_set]; exact h2) (by rw [St.get_set_ne _ _ (Ne.symm (hv _ _ _ rfl))]; exact h3) h4 h5
theorem Gr.block_lt {lo size : Nat} {v : Value} {cs : List Value} (h : Gr s lo size v cs) : ∀ q n c, v = .slice (some q) n c → q.block < s.next := by
  intro q n c e
  cases h with
  | nil => cases e
  | mk h1 h2 h3 h4 h5 => cases e; exact h2
  | ex h1 h2 h3 h4 h5 => cases e; exact h2
theorem Wo_appendN {E : Env} {lo size : Nat} {fr : Fr} {b ix : Nat} {d : Option Nat} {ops : List COper} {Q : Fr → St → Prop} {T bytes : Nat} {x y : Arg} {v w : Value} {cs new : List Value} (hx : x.ev fr = v) (hy : y.ev fr = w) (hg : Gr s lo size v cs) (hlo : lo ≤ s.next) (hw : Feed s size w new) (hz : 0 < size ∧ size < 65536)
    (hroom : (cs.length + new.length) * bytes ≤ room * size)
    (k : ∀ v' s', Gr s' lo size v' (cs ++ new) → Low lo s s' → (v' = v ∨ ∃ k, v' = sl s.next k) → Wo E b ops (putD fr d v') s' Q) : Wo E b (⟨d, .append T size bytes x y, none, ix, []⟩ :: ops) fr s Q := by
  obtain ⟨n, h1, h2, h3⟩ := hw
  have hr : ∀ m, cs.length = m * size → (m + n) * bytes ≤ room := by
    intro m hm
    rw [hm, h3, ← Nat.add_mul] at hroom
    rw [Nat.mul_right_comm] at hroom
    exact Nat.le_of_mul_le_mul_right hroom hz.1
  obtain ⟨v', s', e, g1, g2, g3⟩ := append_gr (bytes := bytes) hz.1 (esz_tag (T := T) hz.2) hg hlo h1 h2 h3 hr
  refine Wo_op (by rw [st_append, hx, hy]; exact e) (k v' s' g1 g2 ?_)
  by_cases h0 : n = 0
  · subst h0
    left
    have e0 : appendOp (tag T size) size bytes s v w = appendNew (tag T size) size bytes s v 0 new := by
      show ob (lenOf w) (fun n => ob (s.elems size w n) fun new => appendNew (tag T size) size bytes s v n new) = _
      rw [h1, ob_some, h2, ob_some]
    rw [e0] at e
    have e1 : appendNew (tag T size) size bytes s v 0 new = some (v, s) := by cases hg <;> rfl
    rw [e1] at e
    cases e; rfl
  · obtain ⟨⟨k', hk⟩, -⟩ := append_own hz.1 (esz_tag (T := T) hz.2) hg hlo h1 h0 h2 h3 hr e
    exact .inr ⟨k', hk⟩
def Wri (s : St) (v : Value) (cs : List Value) : Prop := cs = [] ∨ ∃ b n es, v = sl b n ∧ s.get b = some (.cells cs es .gr)
theorem gr_wri {lo size b n : Nat} {cs : List Value} (h : Gr s lo size (sl b n) cs) : Wri s (sl b n) cs := by
  generalize hv : sl b n = v at h
  cases h with
  | nil => cases hv
  | mk h1 h2 h3 h4 h5 => exact .inr ⟨_, _, _, rfl, h3⟩
  | ex h1 h2 h3 h4 h5 =>
    unfold sl at hv
    cases hv
    omega
theorem Wri.keep {lo hi : Nat} {v : Value} {cs : List Value} (h : Wri s v cs) (m : Mid s lo hi 1 v cs) (k : ∀ c, lo ≤ c → c < hi → t.get c = s.get c) : Wri t v cs := by
  rcases h with h | ⟨b, n, es, rfl, hg⟩
  · exact .inl h
  · refine .inr ⟨b, n, es, rfl, ?_⟩
    have h1 := m.2 _ _ _ rfl
    have h2 : b < hi := by
      have := m.1
      generalize hv : sl b n = v at this
      cases this with
      | nil => cases hv
      | mk hb hg' hl hc => unfold sl at hv; cases hv; exact hb
    rw [k b h1 h2]; exact hg
theorem CloneS_own (hf : Has E f Code.slices_Clone_string_string) {hi : Nat} {v : Value} {m : List Ln} (hhi : hi ≤ s.next) (hv : Texts s hi v m) (hm : m.length ≤ 1000000) : Cv E f [v] s fun r s' => Low s.next s s' ∧ Gr s' s.next 1 r (m.map strOf) ∧ Wri s' r (m.map strOf) := by
  obtain ⟨p, n, c, rfl, hn⟩ := hv.parts
  rw [List.length_map, Nat.mul_one] at hn
  subst hn
  refine Cv_of hf.code ?_
  have h0 : (Tr.ofList (.e : Fr) 0 [.slice p m.length c]).get 0 = some (.slice p m.length c) := rfl
  generalize (Tr.ofList (.e : Fr) 0 [.slice p m.length c]) = fr0 at h0
  unfold Code.slices_Clone_string_string
  refine W_seq (W_region (by simp only [simq, Int.reduceEq, Nat.reduceEqDiff]; rfl) ?_)
  cases p with
  | none =>
    have hm0 : m = [] := by
      cases hv' : m with
      | nil => rfl
      | cons y m' => rw [hv'] at hv; cases hv
    subst hm0
    have e1 : isNil .sl (.slice none ([] : List Ln).length c) = some true := rfl
    refine W_seq (W_seq (W_region (by simp only [simq, Int.reduceEq, Nat.reduceEqDiff, h0, e1]; rfl) ?_))
    refine W_then (by simp only [simq, Int.reduceEq, Nat.reduceEqDiff]) ?_
    refine W_seq (W_region (by simp only [simq, Int.reduceEq, Nat.reduceEqDiff]; rfl) ?_)
    refine W_ret ⟨rfl, _, res_tmp res_nil, Low.self s, ?_, .inl rfl⟩
    simp only [simq, Int.reduceEq, Nat.reduceEqDiff, tupled]
    exact .nil
  | some q =>
    have e1 : isNil .sl (.slice (some q) m.length c) = some false := rfl
    refine W_seq (W_seq (W_region (by simp only [simq, Int.reduceEq, Nat.reduceEqDiff, h0, e1]; rfl) ?_))
    refine W_else (by simp only [simq, Int.reduceEq, Nat.reduceEqDiff]) (W_skip ?_)
    refine W_seq (W_ops ?_)
    refine Wo_buildSlice (size := 1) (lo := s.next) (cs := []) rfl rfl (Nat.le_add_right _ _) (by rw [next_skip]; omega) (by decide) ?_
    rintro s2 ⟨-, g1⟩ g2 hs2
    have l2 : Low s.next s s2 := ((Low.self s).skip 4).trans g2
    refine Wo_run (l := [_]) (by simp only [simq, Int.reduceEq, Nat.reduceEqDiff, h0]; rfl) ?_
    refine Wo_appendN (lo := s.next) (by simp only [simq, Int.reduceEq, Nat.reduceEqDiff]) (by simp only [simq, Int.reduceEq, Nat.reduceEqDiff]) (g1.weak (Nat.le_add_right _ _)) l2.le (Sl.low hv l2 hhi).feed (by decide) (by simp [room]; omega) ?_
    rintro y s3 g3 g4 hy
    rw [List.nil_append] at g3
    refine Wo_all (by simp only [simq, Int.reduceEq, Nat.reduceEqDiff]; rfl) (W_ret ⟨rfl, _, res_tmp res_nil, l2.trans g4, ?_, ?_⟩)
    · simp only [simq, Int.reduceEq, Nat.reduceEqDiff, tupled]
      exact g3
    · simp only [simq, Int.reduceEq, Nat.reduceEqDiff, tupled]
      rcases hy with rfl | ⟨k, rfl⟩
      · left
        obtain ⟨p, n, c, e, hn⟩ := g3.sl.parts
        cases e
        have : ((m.map strOf)).length = 0 := by omega
        exact List.length_eq_zero_iff.1 this
      · exact gr_wri g3
def DocO (s : St) (lo hi : Nat) (cs : List Value) (d : Doc) : Prop := ∃ m h p g t, lo ≤ m ∧ m ≤ hi ∧ cs = [strOf d.title, h, p, g, t] ∧ MTexts s lo m h d.header ∧ Wri s h (d.header.map strOf) ∧ MTexts s m hi p d.prologue ∧ MLists s m hi g d.pages ∧ MTexts s m hi t d.trailer
section
variable {lo lo' hi hi' a : Nat} {cs : List Value} {d : Doc}
theorem DocO.docM (h : DocO s lo hi cs d) : DocM s lo hi cs d :=
  let ⟨m, h0, p, g, t, k1, k2, e, h1, _, h3, h4, h5⟩ := h
  ⟨h0, p, g, t, e, h1.to (Nat.le_refl _) k2, h3.to k1 (Nat.le_refl _), h4.to k1 (Nat.le_refl _), h5.to k1 (Nat.le_refl _)⟩
theorem DocO.to (h : DocO s lo hi cs d) (hl : lo' ≤ lo) (hh : hi ≤ hi') : DocO s lo' hi' cs d :=
  let ⟨m, h0, p, g, t, k1, k2, e, h1, hw, h3, h4, h5⟩ := h
  ⟨m, h0, p, g, t, Nat.le_trans hl k1, Nat.le_trans k2 hh, e, h1.to hl (Nat.le_refl _), hw, h3.to (Nat.le_refl _) hh, h4.to (Nat.le_refl _) hh, h5.to (Nat.le_refl _) hh⟩
theorem DocO.but (h : DocO s lo hi cs d) (k : But a s t) (hh : hi ≤ s.next) (ha : a < lo ∨ hi ≤ a) : DocO t lo hi cs d := by
  obtain ⟨m, h0, p, g, tr, k1, k2, e, h1, hw, h3, h4, h5⟩ := h
  refine ⟨m, h0, p, g, tr, k1, k2, e, h1.but k (Nat.le_trans k2 hh) (by omega), hw.keep h1 fun c c1 c2 => k.2 c (by omega) (by omega), h3.but k hh (by omega), h4.but k hh (by omega), h5.but k hh (by omega)⟩
theorem DocO.low (h : DocO s lo hi cs d) (k : Low lo' s t) (hh : hi ≤ lo') : DocO t lo hi cs d := by
  obtain ⟨m, h0, p, g, tr, k1, k2, e, h1, hw, h3, h4, h5⟩ := h
  exact ⟨m, h0, p, g, tr, k1, k2, e, h1.low k (by omega), hw.keep h1 fun c c1 c2 => k.2.2 c (by omega), h3.low k hh, h4.low k hh, h5.low k hh⟩
end
end
end
end Go.Ev
