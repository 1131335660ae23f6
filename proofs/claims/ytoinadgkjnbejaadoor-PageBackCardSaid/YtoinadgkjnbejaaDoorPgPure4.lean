/-
  Pages: the text of a document, and that reading goes back and forth. No program in this text.
-/
import Derived.Test.YtoinadgkjnbejaaDoorPgPure3
set_option linter.unusedVariables false
set_option linter.unusedSimpArgs false
namespace Go.Pg
def joinL : List Ln → Ln
  | [] => []
  | l :: r => l ++ 10 :: joinL r
theorem joinL_append : ∀ a b : List Ln, joinL (a ++ b) = joinL a ++ joinL b
  | [], b => rfl
  | l :: r, b => by rw [List.cons_append, joinL, joinL, joinL_append r b]; simp
def pagesLines : Nat → List (List Ln) → List Ln
  | _, [] => []
  | k, p :: ps => (wPage ++ dec (k + 1)) :: (p ++ pagesLines (k + 1) ps)
def docLines (d : Doc) : List Ln := wFirst :: (d.header ++ wEndHeader :: (d.prologue ++ (pagesLines 0 d.pages ++ wTrailer :: (d.trailer ++ [wEof]))))
def textD (d : Doc) : Ln := joinL (docLines d)
theorem join_lns (s : Ln) : joinL (lns s).1 ++ (lns s).2 = s := by
  have : ∀ (s : Ln) (x : List Ln × Ln), joinL (s.foldl lnsF x).1 ++ (s.foldl lnsF x).2 = joinL x.1 ++ (x.2 ++ s) := by
    intro s
    induction s with
    | nil => intro x; simp
    | cons c r ih =>
      intro x
      rw [List.foldl_cons, ih]
      unfold lnsF
      split
      · rename_i h; subst h
        simp only [joinL_append, joinL]; simp
      · simp
  have := this s ([], [])
  unfold lns
  simpa [joinL] using this
theorem lns_join : ∀ l : List Ln, (∀ x ∈ l, 10 ∉ x) → lns (joinL l) = (l, [])
  | [], _ => rfl
  | x :: r, h => by
    rw [joinL, lns_cut (h x (List.mem_cons_self ..)), lns_join r (fun y hy => h y (List.mem_cons_of_mem _ hy))]
theorem lns_no (s : Ln) : (∀ x ∈ (lns s).1, 10 ∉ x) ∧ 10 ∉ (lns s).2 := by
  have : ∀ (s : Ln) (x : List Ln × Ln), (∀ y ∈ x.1, 10 ∉ y) → 10 ∉ x.2 → (∀ y ∈ (s.foldl lnsF x).1, 10 ∉ y) ∧ 10 ∉ (s.foldl lnsF x).2 := by
    intro s
    induction s with
    | nil => intro x h1 h2; exact ⟨h1, h2⟩
    | cons c r ih =>
      intro x h1 h2
      rw [List.foldl_cons]
      refine ih _ ?_ ?_
      · intro y hy
        unfold lnsF at hy
        split at hy
        · rcases List.mem_append.1 hy with hy | hy
          · exact h1 y hy
          · rw [List.mem_singleton] at hy; subst hy; exact h2
        · exact h1 y hy
      · unfold lnsF
        split
        · simp
        · rename_i hc
          rw [List.mem_append, not_or]
          exact ⟨h2, by simpa using fun e => hc e.symm⟩
  exact this s ([], []) (by simp) (by simp)
theorem headR_lines : ∀ (l : List Ln) (a : Option Nat) (b : Option Ln) (x : Option Nat × Option Ln × List Ln × List Ln), headR l a b = some x → l = x.2.2.1 ++ wEndHeader :: x.2.2.2
  | [], a, b, x, h => by rw [headR] at h; cases h
  | s :: t, a, b, x, h => by
    have st : ∀ a' b', (headR t a' b').map (fun x => (x.1, x.2.1, s :: x.2.2.1, x.2.2.2)) = some x → s :: t = x.2.2.1 ++ wEndHeader :: x.2.2.2 := by
      intro a' b' h
      cases hb : headR t a' b' with
      | none => rw [hb] at h; cases h
      | some y =>
        rw [hb] at h
        cases h
        rw [headR_lines t a' b' y hb]; rfl
    rw [headR] at h
    split at h
    · rename_i k3
      cases h
      rw [kd_3.1 k3]; rfl
    repeat' split at h
    all_goals first | exact st _ _ h | (cases h; done)
theorem bodyR_head : ∀ (l : List Ln) (b : Bool) (o r : List Ln), bodyR b l = some (o, r) → ∀ s, r[0]? = some s → (kd s).1 = 7 ∨ (kd s).1 = 8
  | [], b, o, r, h => by rw [bodyR] at h; cases h
  | s :: t, b, o, r, h => by
    have st : ∀ b', (bodyR b' t).map (fun x => (s :: x.1, x.2)) = some (o, r) → ∀ s, r[0]? = some s → (kd s).1 = 7 ∨ (kd s).1 = 8 := by
      intro b' h
      cases hb : bodyR b' t with
      | none => rw [hb] at h; cases h
      | some x =>
        obtain ⟨p, q⟩ := x
        rw [hb] at h
        cases h
        exact bodyR_head t b' p q hb
    rw [bodyR] at h
    split at h
    · exact st _ h
    split at h
    · cases h
    split at h
    · exact st _ h
    split at h
    · rename_i c
      cases h
      intro q hq
      cases hq
      simpa using c
    repeat' split at h
    all_goals first | exact st _ h | (cases h; done)
theorem pagesR_lines : ∀ (n : Nat) (l : List Ln) (k : Nat) (ps : List (List Ln)) (r : List Ln), l.length ≤ n → (∀ s, l[0]? = some s → (kd s).1 = 7 ∨ (kd s).1 = 8) → pagesR k l = some (ps, r) → l = pagesLines k ps ++ wTrailer :: r := by
  intro n
  induction n with
  | zero =>
    intro l k ps r hl _ h
    have : l = [] := List.length_eq_zero_iff.1 (by omega)
    subst this
    rw [pagesR] at h; cases h
  | succ n ih =>
    intro l k ps r hl hd h
    cases l with
    | nil => rw [pagesR] at h; cases h
    | cons s t =>
      rw [pagesR_cons] at h
      split at h
      · rename_i k8
        cases h
        rw [kd_8.1 k8]; rfl
      rename_i k8
      have k7 : (kd s).1 = 7 := by rcases hd s rfl with h | h; exact h; exact absurd h k8
      obtain ⟨e1, e2⟩ := kd_7 k7
      split at h
      · rename_i hn
        cases hb : bodyR false t with
        | none => rw [hb] at h; cases h
        | some x =>
          rw [hb, Option.bind_some] at h
          cases hp : pagesR (k + 1) x.2 with
          | none => rw [hp] at h; cases h
          | some y =>
            obtain ⟨y1, y2⟩ := y
            rw [hp] at h
            cases h
            have hlen := bodyR_len hb
            have hs := bodyR_suf t false x.1 x.2 hb
            have hh := bodyR_head t false x.1 x.2 hb
            have := ih x.2 (k + 1) y1 y2 (by simp at hl; omega) hh hp
            rw [pagesLines, hs, this, ← (num_eq_dec e2).1 hn, ← e1]
            simp
      · cases h
theorem parse_lines {l : List Ln} {d : Doc} (h : parseR l = some d) : l = docLines d := by
  cases l with
  | nil => cases h
  | cons s r =>
    rw [parseR] at h
    by_cases hs : s = wFirst
    · rw [if_pos hs] at h
      cases hh : headR r none none with
      | none => rw [hh] at h; cases h
      | some x =>
        rw [hh, Option.bind_some] at h
        have g1 := headR_lines _ _ _ _ hh
        cases hb : bodyR false x.2.2.2 with
        | none => rw [hb] at h; cases h
        | some y =>
          rw [hb, Option.bind_some] at h
          have g2 := bodyR_suf _ _ _ _ hb
          have g2' := bodyR_head _ _ _ _ hb
          cases hp : pagesR 0 y.2 with
          | none => rw [hp] at h; cases h
          | some z =>
            rw [hp, Option.bind_some] at h
            obtain ⟨z1, z2⟩ := z
            have g3 := pagesR_lines _ _ _ _ _ (Nat.le_refl _) g2' hp
            split at h
            · cases ht : trailR z2 with
              | none => rw [ht] at h; cases h
              | some t =>
                rw [ht] at h
                cases h
                have g4 := trailR_end _ _ ht
                unfold docLines
                rw [hs, g1, g2, g3, g4]
            · cases h
    · rw [if_neg hs] at h; cases h
theorem text_doc {s : Ln} {d : Doc} (h : docR s = some d) : textD d = s := by
  unfold docR at h
  split at h
  · cases h
  · rename_i hc
    rw [not_or] at hc
    have h2 : (lns s).2 = [] := Classical.byContradiction hc.2
    have := join_lns s
    rw [h2, List.append_nil] at this
    unfold textD
    rw [← parse_lines h, this]
end Go.Pg
