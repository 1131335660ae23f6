/-
  Pages: a document whose parts are right is read back from its text. No program in this text.
-/
import Derived.Test.YtoinadgkjnbejaaDoorPgPure4
set_option linter.unusedVariables false
set_option linter.unusedSimpArgs false
namespace Go.Pg
def bodyC (p : List Ln) : Prop := bodyP false p = some (p.length, true)
theorem map_len {α β : Type} {o : Option α} {f : α → β} {y : β} (h : o.map f = some y) : ∃ x, o = some x ∧ f x = y := by
  cases o with
  | none => cases h
  | some x => cases h; exact ⟨x, rfl, rfl⟩
theorem bodyR_closed : ∀ (l : List Ln) (b : Bool) (o r : List Ln), bodyR b l = some (o, r) → bodyP b o = some (o.length, true)
  | [], b, o, r, h => by rw [bodyR] at h; cases h
  | s :: t, b, o, r, h => by
    rw [bodyR] at h
    by_cases c1 : (b && (kd s).1 == 6) = true
    · rw [if_pos c1] at h
      obtain ⟨⟨p, q⟩, hb, e⟩ := map_len h
      cases e
      rw [bodyP, if_pos c1, bodyR_closed t false p q hb]; rfl
    rw [if_neg c1] at h
    by_cases c2 : (b && cmt s) = true
    · rw [if_pos c2] at h; cases h
    rw [if_neg c2] at h
    cases b with
    | true =>
      rw [if_pos rfl] at h
      obtain ⟨⟨p, q⟩, hb, e⟩ := map_len h
      cases e
      rw [bodyP, if_neg c1, if_neg c2, if_pos (show (true || (kd s).1 == 0 || (kd s).1 == 4) = true by simp), bodyR_closed t true p q hb]; rfl
    | false =>
      rw [if_neg (by simp)] at h
      by_cases c3 : ((kd s).1 == 7 || (kd s).1 == 8) = true
      · rw [if_pos c3] at h; cases h; rfl
      rw [if_neg c3] at h
      by_cases c5 : ((kd s).1 == 5) = true
      · rw [if_pos c5] at h
        obtain ⟨⟨p, q⟩, hb, e⟩ := map_len h
        cases e
        have c4 : (false || (kd s).1 == 0 || (kd s).1 == 4) ≠ true := by
          simp at c5 ⊢; omega
        rw [bodyP, if_neg c1, if_neg c2, if_neg c4, if_pos c5, bodyR_closed t true p q hb]; rfl
      rw [if_neg c5] at h
      by_cases c6 : ((kd s).1 != 0 && (kd s).1 != 4) = true
      · rw [if_pos c6] at h; cases h
      rw [if_neg c6] at h
      obtain ⟨⟨p, q⟩, hb, e⟩ := map_len h
      cases e
      have c4 : (false || (kd s).1 == 0 || (kd s).1 == 4) = true := by
        simp at c6 ⊢; omega
      rw [bodyP, if_neg c1, if_neg c2, if_pos c4, bodyR_closed t false p q hb]; rfl
theorem bodyR_of : ∀ (o r : List Ln) (b : Bool), bodyP b o = some (o.length, true) → (∃ s t, r = s :: t ∧ ((kd s).1 = 7 ∨ (kd s).1 = 8)) → bodyR b (o ++ r) = some (o, r)
  | [], r, b, h, hr => by
    obtain ⟨s, t, rfl, hk⟩ := hr
    rw [bodyP] at h
    cases b with
    | true => cases h
    | false =>
      have c3 : ((kd s).1 == 7 || (kd s).1 == 8) = true := by simpa using hk
      rw [List.nil_append, bodyR, if_neg (by simp), if_neg (by simp), if_neg (by simp), if_pos c3]
  | s :: o, r, b, h, hr => by
    have len : ∀ b', (bodyP b' o).map (fun x => (x.1 + 1, x.2)) = some ((s :: o).length, true) → bodyP b' o = some (o.length, true) := by
      intro b' h
      obtain ⟨⟨n, k⟩, e1, e2⟩ := map_len h
      simp only [List.length_cons, Prod.mk.injEq, Nat.add_right_cancel_iff] at e2
      rw [e1, e2.1, e2.2]
    rw [bodyP] at h
    rw [List.cons_append, bodyR]
    by_cases c1 : (b && (kd s).1 == 6) = true
    · rw [if_pos c1] at h ⊢
      rw [bodyR_of o r false (len _ h) hr]; rfl
    rw [if_neg c1] at h ⊢
    by_cases c2 : (b && cmt s) = true
    · rw [if_pos c2] at h; cases h
    rw [if_neg c2] at h ⊢
    cases b with
    | true =>
      rw [if_pos (show (true || (kd s).1 == 0 || (kd s).1 == 4) = true by simp)] at h
      rw [if_pos rfl, bodyR_of o r true (len _ h) hr]; rfl
    | false =>
      rw [if_neg (by simp)]
      by_cases c4 : (false || (kd s).1 == 0 || (kd s).1 == 4) = true
      · rw [if_pos c4] at h
        have c3 : ¬ (((kd s).1 == 7 || (kd s).1 == 8) = true) := by
          simp at c4 ⊢; omega
        have c5 : ¬ (((kd s).1 == 5) = true) := by
          simp at c4 ⊢; omega
        have c6 : ¬ (((kd s).1 != 0 && (kd s).1 != 4) = true) := by
          simp at c4 ⊢; omega
        rw [if_neg c3, if_neg c5, if_neg c6, bodyR_of o r false (len _ h) hr]; rfl
      rw [if_neg c4] at h
      by_cases c5 : ((kd s).1 == 5) = true
      · rw [if_pos c5] at h
        have c3 : ¬ (((kd s).1 == 7 || (kd s).1 == 8) = true) := by
          simp at c5 ⊢; omega
        rw [if_neg c3, if_pos c5, bodyR_of o r true (len _ h) hr]; rfl
      · rw [if_neg c5] at h
        simp at h
theorem headR_swap : ∀ (l : List Ln) (a : Option Nat) (b : Option Ln) (x : Option Nat × Option Ln × List Ln × List Ln) (r' : List Ln), headR l a b = some x → headR (x.2.2.1 ++ wEndHeader :: r') a b = some (x.1, x.2.1, x.2.2.1, r')
  | [], a, b, x, r', h => by rw [headR] at h; cases h
  | s :: t, a, b, x, r', h => by
    rw [headR] at h
    by_cases k3 : (kd s).1 = 3
    · rw [if_pos k3] at h
      cases h
      rw [List.nil_append, headR, if_pos (kd_3.2 rfl)]
    rw [if_neg k3] at h
    by_cases k1 : (kd s).1 = 1 ∧ b = none
    · rw [if_pos k1] at h
      obtain ⟨y, e1, rfl⟩ := map_len h
      rw [List.cons_append, headR, if_neg k3, if_pos k1, headR_swap t _ _ y r' e1]; rfl
    rw [if_neg k1] at h
    by_cases k2 : (kd s).1 = 2 ∧ a = none
    · rw [if_pos k2] at h
      obtain ⟨y, e1, rfl⟩ := map_len h
      rw [List.cons_append, headR, if_neg k3, if_neg k1, if_pos k2, headR_swap t _ _ y r' e1]; rfl
    rw [if_neg k2] at h
    by_cases k0 : (kd s).1 ≠ 0
    · rw [if_pos k0] at h; cases h
    · rw [if_neg k0] at h
      obtain ⟨y, e1, rfl⟩ := map_len h
      rw [List.cons_append, headR, if_neg k3, if_neg k1, if_neg k2, if_neg k0, headR_swap t _ _ y r' e1]; rfl
theorem pagesR_all : ∀ (n : Nat) (l : List Ln) (k : Nat) (ps : List (List Ln)) (r : List Ln), l.length ≤ n → pagesR k l = some (ps, r) → (∀ p ∈ ps, bodyC p) ∧ (k ≤ 999 → k + ps.length ≤ 999) := by
  intro n
  induction n with
  | zero =>
    intro l k ps r hl h
    have : l = [] := List.length_eq_zero_iff.1 (by omega)
    subst this
    rw [pagesR] at h; cases h
  | succ n ih =>
    intro l k ps r hl h
    cases l with
    | nil => rw [pagesR] at h; cases h
    | cons s t =>
      rw [pagesR_cons] at h
      split at h
      · cases h; exact ⟨by simp, fun h => by simpa using h⟩
      split at h
      · rename_i hn
        cases hb : bodyR false t with
        | none => rw [hb] at h; cases h
        | some x =>
          rw [hb, Option.bind_some] at h
          obtain ⟨⟨y1, y2⟩, hp, e⟩ := map_len h
          cases e
          have hlen := bodyR_len hb
          obtain ⟨g1, g2⟩ := ih x.2 (k + 1) y1 y2 (by simp at hl; omega) hp
          have h9 := (num_some hn).1
          refine ⟨fun p hp => ?_, fun _ => ?_⟩
          · rcases List.mem_cons.1 hp with rfl | hp
            · exact bodyR_closed t false _ _ hb
            · exact g1 p hp
          · have := g2 h9
            simp only [List.length_cons]
            have e : ((y1, y2) : List (List Ln) × List Ln).1 = y1 := rfl
            simp only [e] at *
            omega
      · cases h
theorem pagesR_of : ∀ (ps : List (List Ln)) (k : Nat) (t : List Ln), (∀ p ∈ ps, bodyC p) → k + ps.length ≤ 999 → pagesR k (pagesLines k ps ++ wTrailer :: t) = some (ps, t)
  | [], k, t, _, _ => by
    rw [pagesLines, List.nil_append, pagesR_cons, if_pos (kd_8.2 rfl)]
  | p :: ps, k, t, h, hk => by
    rw [List.length_cons] at hk
    have hd := isNum_dec (n := k + 1) (by omega)
    have hkd := kd_page hd
    rw [pagesLines, List.cons_append, pagesR_cons, hkd, if_neg (show ¬ (7 : Nat) = 8 by decide), if_pos (num_dec (by omega)), List.append_assoc]
    have ih := pagesR_of ps (k + 1) t (fun q hq => h q (List.mem_cons_of_mem _ hq)) (by omega)
    rw [bodyR_of p _ false (h p (List.mem_cons_self ..)) ?_, Option.bind_some, ih]
    · rfl
    · cases ps with
      | nil => exact ⟨_, _, rfl, .inr (kd_8.2 rfl)⟩
      | cons q qs =>
        rw [List.length_cons] at hk
        exact ⟨_, _, rfl, .inl (by rw [kd_page (isNum_dec (by omega))])⟩
structure Wf (d : Doc) : Prop where
  head : ∃ told ti, headR (d.header ++ [wEndHeader]) none none = some (told, ti, d.header, []) ∧ ti.getD [] = d.title ∧ agrees told d.pages.length = true
  pro : bodyC d.prologue
  pgs : ∀ p ∈ d.pages, bodyC p
  few : d.pages.length ≤ 999
  tr : plainL d.trailer = true
  nl : ∀ x ∈ docLines d, 10 ∉ x
theorem trailR_plain : ∀ (l t : List Ln), trailR l = some t → plainL t = true
  | [], t, h => by rw [trailR] at h; cases h
  | s :: r, t, h => by
    rw [trailR] at h
    split at h
    · rename_i k0
      obtain ⟨u, hu, rfl⟩ := map_len h
      have := trailR_plain r u hu
      unfold plainL at this ⊢
      rw [List.all_cons, this, k0]; rfl
    split at h
    · cases h; rfl
    · cases h
theorem parse_wf {l : List Ln} {d : Doc} (h : parseR l = some d) (hn : ∀ x ∈ l, 10 ∉ x) : Wf d := by
  have hl := parse_lines h
  cases l with
  | nil => cases h
  | cons s r =>
    rw [parseR] at h
    by_cases hs : s = wFirst
    · rw [if_pos hs] at h
      cases hh : headR r none none with
      | none => rw [hh] at h; cases h
      | some x =>
        rw [hh, Option.bind_some] at h
        cases hb : bodyR false x.2.2.2 with
        | none => rw [hb] at h; cases h
        | some y =>
          rw [hb, Option.bind_some] at h
          cases hp : pagesR 0 y.2 with
          | none => rw [hp] at h; cases h
          | some z =>
            rw [hp, Option.bind_some] at h
            obtain ⟨z1, z2⟩ := z
            obtain ⟨g1, g2⟩ := pagesR_all _ _ _ _ _ (Nat.le_refl _) hp
            split at h
            · rename_i ha
              obtain ⟨t, ht, e⟩ := map_len h
              subst e
              exact { head := ⟨x.1, x.2.1, headR_swap r none none x [] hh, rfl, ha⟩, pro := bodyR_closed _ _ _ _ hb, pgs := g1, few := by have := g2 (by omega); simpa using this, tr := trailR_plain _ _ ht, nl := by rw [← hl]; exact hn }
            · cases h
    · rw [if_neg hs] at h; cases h
theorem wf_parse {d : Doc} (h : Wf d) : parseR (docLines d) = some d := by
  obtain ⟨told, ti, h1, h2, h3⟩ := h.head
  unfold docLines
  rw [parseR, if_pos rfl]
  have e1 := headR_swap _ _ _ _ (d.prologue ++ (pagesLines 0 d.pages ++ wTrailer :: (d.trailer ++ [wEof]))) h1
  simp only at e1
  rw [e1, Option.bind_some]
  simp only
  have e2 := pagesR_of d.pages 0 (d.trailer ++ [wEof]) h.pgs (by have := h.few; omega)
  rw [bodyR_of d.prologue _ false h.pro ?_, Option.bind_some]
  · simp only
    rw [e2, Option.bind_some]
    simp only
    rw [if_pos h3, trail_eq wEof rfl, if_pos h.tr, Option.map_some, h2]
  · cases hp : d.pages with
    | nil => exact ⟨_, _, rfl, .inr (kd_8.2 rfl)⟩
    | cons q qs =>
      have := h.few
      rw [hp, List.length_cons] at this
      exact ⟨_, _, rfl, .inl (by rw [kd_page (isNum_dec (by omega))])⟩
theorem wf_doc {d : Doc} (h : Wf d) (hl : (textD d).length ≤ 20000) : docR (textD d) = some d := by
  unfold docR
  have e : lns (textD d) = (docLines d, []) := lns_join _ h.nl
  rw [e, if_neg (by rw [not_or]; exact ⟨by omega, fun c => c rfl⟩)]
  exact wf_parse h
theorem doc_wf {s : Ln} {d : Doc} (h : docR s = some d) : Wf d ∧ s.length ≤ 20000 := by
  unfold docR at h
  split at h
  · cases h
  · rename_i hc
    rw [not_or] at hc
    exact ⟨parse_wf h (lns_no s).1, by omega⟩
end Go.Pg
