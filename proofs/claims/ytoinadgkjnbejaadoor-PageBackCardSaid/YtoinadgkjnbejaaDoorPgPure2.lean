/-
  Pages: both readers of a document's lines find the same. No program in this text.
-/
import Derived.Test.YtoinadgkjnbejaaDoorPgPure
set_option linter.unusedVariables false
set_option linter.unusedSimpArgs false
namespace Go.Pg
structure HS where
  title : Ln
  titles : Nat
  told : Ln
  counts : Nat
def headP : List Ln → HS → Option HS
  | [], x => some x
  | s :: r, x =>
    if (kd s).1 = 1 then headP r ⟨(kd s).2, x.titles + 1, x.told, x.counts⟩
    else if (kd s).1 = 2 then headP r ⟨x.title, x.titles, (kd s).2, x.counts + 1⟩
    else if (kd s).1 = 0 then headP r x
    else none
def headR : List Ln → Option Nat → Option Ln → Option (Option Nat × Option Ln × List Ln × List Ln)
  | [], _, _ => none
  | s :: r, told, ti =>
    if (kd s).1 = 3 then some (told, ti, [], r)
    else if (kd s).1 = 1 ∧ ti = none then (headR r told (some (kd s).2)).map fun x => (x.1, x.2.1, s :: x.2.2.1, x.2.2.2)
    else if (kd s).1 = 2 ∧ told = none then (headR r (num (kd s).2) ti).map fun x => (x.1, x.2.1, s :: x.2.2.1, x.2.2.2)
    else if (kd s).1 ≠ 0 then none
    else (headR r told ti).map fun x => (x.1, x.2.1, s :: x.2.2.1, x.2.2.2)
def cutH : List Ln → Option (List Ln × List Ln)
  | [] => none
  | s :: r => if s = wEndHeader then some ([], r) else (cutH r).map fun x => (s :: x.1, x.2)
def ixOf (x : Ln) : List Ln → Option Nat
  | [] => none
  | s :: r => if s = x then some 0 else (ixOf x r).map (· + 1)
theorem cutH_ix : ∀ l : List Ln, cutH l = (ixOf wEndHeader l).map fun n => (l.take n, l.drop (n + 1))
  | [] => rfl
  | s :: r => by
    rw [cutH, ixOf]
    split
    · rfl
    · rw [cutH_ix r, Option.map_map, Option.map_map]; rfl
theorem ixOf_lt {x : Ln} : ∀ {l : List Ln} {n : Nat}, ixOf x l = some n → n < l.length
  | [], n, h => by cases h
  | s :: r, n, h => by
    rw [ixOf] at h
    split at h
    · cases h; simp
    · cases hr : ixOf x r with
      | none => rw [hr] at h; cases h
      | some m => rw [hr] at h; cases h; have := ixOf_lt hr; simpa using this
theorem cutH_len {l h r : List Ln} (e : cutH l = some (h, r)) : l.length = h.length + 1 + r.length := by
  rw [cutH_ix] at e
  cases hi : ixOf wEndHeader l with
  | none => rw [hi] at e; cases e
  | some n =>
    rw [hi] at e
    have := ixOf_lt hi
    cases e
    simp; omega
def tld (x : HS) : Option Nat := if x.counts = 1 then num x.told else none
def til (x : HS) : Option Ln := if x.titles = 1 then some x.title else none
def headT (e : Ln) (x : HS) : Option (List Ln × List Ln) → Option (Option Nat × Option Ln × List Ln × List Ln)
  | none => none
  | some (h, r) =>
    match headP h x with
    | none => none
    | some y => if y.titles ≤ 1 ∧ y.counts ≤ 1 then some (tld y, til y, h, r ++ [e]) else none
theorem headP_mono : ∀ (h : List Ln) (x y : HS), headP h x = some y → x.titles ≤ y.titles ∧ x.counts ≤ y.counts
  | [], x, y, h => by rw [headP] at h; cases h; exact ⟨Nat.le_refl _, Nat.le_refl _⟩
  | s :: r, x, y, h => by
    rw [headP] at h
    repeat' split at h
    · have := headP_mono r _ _ h; simp only at this; omega
    · have := headP_mono r _ _ h; simp only at this; omega
    · exact headP_mono r _ _ h
    · cases h
theorem headP_title : ∀ (h : List Ln) (x y : HS), headP h x = some y → (x.titles = 0 → x.title = []) → (y.titles = 0 → y.title = [])
  | [], x, y, h, hx => by rw [headP] at h; cases h; exact hx
  | s :: r, x, y, h, hx => by
    rw [headP] at h
    repeat' split at h
    · exact headP_title r _ _ h (fun e => by simp only at e; omega)
    · exact headP_title r _ _ h hx
    · exact headP_title r _ _ h hx
    · cases h
theorem headP_told : ∀ (h : List Ln) (x y : HS), headP h x = some y → (x.counts = 1 → isNum x.told = true) → x.counts ≤ 1 → (y.counts = 1 → isNum y.told = true)
  | [], x, y, h, hx, _ => by rw [headP] at h; cases h; exact hx
  | s :: r, x, y, h, hx, hc => by
    rw [headP] at h
    split at h
    · exact headP_told r _ _ h hx hc
    split at h
    · rename_i k
      by_cases h0 : x.counts = 0
      · exact headP_told r _ _ h (fun _ => (kd_2 k).2) (by simp only; omega)
      · intro hy
        have := (headP_mono r _ _ h).2
        simp only at this
        omega
    split at h
    · exact headP_told r _ _ h hx hc
    · cases h
theorem headT_cons {e s : Ln} {x x' : HS} (hs : ∀ h, headP (s :: h) x = headP h x') (o : Option (List Ln × List Ln)) : headT e x (o.map fun z => (s :: z.1, z.2)) = (headT e x' o).map fun x => (x.1, x.2.1, s :: x.2.2.1, x.2.2.2) := by
  match o with
  | none => rfl
  | some (h, r) =>
    show (match headP (s :: h) x with | none => none | some y => if y.titles ≤ 1 ∧ y.counts ≤ 1 then some (tld y, til y, s :: h, r ++ [e]) else none) = Option.map _ (match headP h x' with | none => none | some y => if y.titles ≤ 1 ∧ y.counts ≤ 1 then some (tld y, til y, h, r ++ [e]) else none)
    rw [hs]
    cases headP h x' with
    | none => rfl
    | some y => simp only; split <;> rfl
theorem headT_none {e s : Ln} {x : HS} (hs : ∀ h y, headP (s :: h) x = some y → ¬ (y.titles ≤ 1 ∧ y.counts ≤ 1)) (o : Option (List Ln × List Ln)) : headT e x (o.map fun z => (s :: z.1, z.2)) = none := by
  match o with
  | none => rfl
  | some (h, r) =>
    show (match headP (s :: h) x with | none => none | some y => if y.titles ≤ 1 ∧ y.counts ≤ 1 then some (tld y, til y, s :: h, r ++ [e]) else none) = none
    cases hh : headP (s :: h) x with
    | none => rfl
    | some y => simp only; rw [if_neg (hs h y hh)]
theorem head_eq (e : Ln) (he : e = wEof) : ∀ (l : List Ln) (x : HS), x.titles ≤ 1 → x.counts ≤ 1 → (x.counts = 1 → isNum x.told = true) → headR (l ++ [e]) (tld x) (til x) = headT e x (cutH l)
  | [], x, _, _, _ => by
    subst he
    have h9 : (kd wEof).1 = 9 := kd_9.2 rfl
    show headR [wEof] _ _ = none
    rw [headR, h9]; rfl
  | s :: r, x, h1, h2, h3 => by
    rw [List.cons_append, headR, cutH]
    by_cases k3 : (kd s).1 = 3
    · rw [if_pos k3, if_pos (kd_3.1 k3)]
      show _ = (match headP [] x with | none => none | some y => if y.titles ≤ 1 ∧ y.counts ≤ 1 then some (tld y, til y, [], r ++ [e]) else none)
      rw [headP]; simp only
      rw [if_pos ⟨h1, h2⟩]
    rw [if_neg k3, if_neg (fun c => k3 (kd_3.2 c))]
    by_cases k1 : (kd s).1 = 1
    · by_cases t0 : x.titles = 0
      · have e1 : til x = none := by unfold til; rw [if_neg (by omega)]
        rw [if_pos ⟨k1, e1⟩]
        have ih := head_eq e he r ⟨(kd s).2, x.titles + 1, x.told, x.counts⟩ (by simp only; omega) h2 h3
        have e2 : til ⟨(kd s).2, x.titles + 1, x.told, x.counts⟩ = some (kd s).2 := by unfold til; rw [if_pos (by simp only; omega)]
        rw [e2] at ih
        rw [headT_cons (x' := ⟨(kd s).2, x.titles + 1, x.told, x.counts⟩) (fun h => by rw [headP, if_pos k1]), ← ih]; rfl
      · have t1 : x.titles = 1 := by omega
        have e1 : til x = some x.title := by unfold til; rw [if_pos t1]
        rw [e1, if_neg (by simp), if_neg (by omega), if_pos (by omega), headT_none]
        intro h y hy
        rw [headP, if_pos k1] at hy
        have := (headP_mono _ _ _ hy).1
        simp only at this
        omega
    rw [if_neg (by simp [k1])]
    by_cases k2 : (kd s).1 = 2
    · by_cases t0 : x.counts = 0
      · have e1 : tld x = none := by unfold tld; rw [if_neg (by omega)]
        rw [if_pos ⟨k2, e1⟩]
        have ih := head_eq e he r ⟨x.title, x.titles, (kd s).2, x.counts + 1⟩ h1 (by simp only; omega) (fun _ => (kd_2 k2).2)
        have e2 : tld ⟨x.title, x.titles, (kd s).2, x.counts + 1⟩ = num (kd s).2 := by unfold tld; rw [if_pos (by simp only; omega)]
        rw [e2] at ih
        rw [headT_cons (x' := ⟨x.title, x.titles, (kd s).2, x.counts + 1⟩) (fun h => by rw [headP, if_neg k1, if_pos k2]), ← ih]; rfl
      · have t1 : x.counts = 1 := by omega
        have e1 : tld x ≠ none := by
          unfold tld; rw [if_pos t1]
          have := h3 t1
          unfold isNum at this
          intro c; rw [c] at this; cases this
        rw [if_neg (fun c => e1 c.2), if_pos (by omega), headT_none]
        intro h y hy
        rw [headP, if_neg k1, if_pos k2] at hy
        have := (headP_mono _ _ _ hy).2
        simp only at this
        omega
    rw [if_neg (by simp [k2])]
    by_cases k0 : (kd s).1 = 0
    · rw [if_neg (by simp [k0]), headT_cons (x' := x) (fun h => by rw [headP, if_neg k1, if_neg k2, if_pos k0]), head_eq e he r x h1 h2 h3]
    · rw [if_pos k0, headT_none]
      intro h y hy
      rw [headP, if_neg k1, if_neg k2, if_neg k0] at hy
      cases hy
theorem bodyR_suf : ∀ (l : List Ln) (b : Bool) (o r : List Ln), bodyR b l = some (o, r) → l = o ++ r
  | [], b, o, r, h => by rw [bodyR] at h; cases h
  | s :: t, b, o, r, h => by
    have st : ∀ b', (bodyR b' t).map (fun x => (s :: x.1, x.2)) = some (o, r) → s :: t = o ++ r := by
      intro b' h
      cases hb : bodyR b' t with
      | none => rw [hb] at h; cases h
      | some x =>
        obtain ⟨p, q⟩ := x
        rw [hb] at h
        cases h
        rw [bodyR_suf t b' p q hb]; rfl
    rw [bodyR] at h
    repeat' split at h
    all_goals first | exact st _ h | (cases h; done) | (cases h; rfl)
theorem bodyR_len {l : List Ln} {b : Bool} {x : List Ln × List Ln} (h : bodyR b l = some x) : x.2.length ≤ l.length := by
  rw [bodyR_suf l b x.1 x.2 h, List.length_append]; omega
def pagesP (k : Nat) (l : List Ln) : Option (List (List Ln) × List Ln) :=
  match l with
  | [] => some ([], [])
  | s :: r =>
    if s = wPage ++ dec (k + 1) then
      match bodyP false r with
      | some (n, true) => (pagesP (k + 1) (r.drop n)).map fun x => (r.take n :: x.1, x.2)
      | _ => none
    else some ([], s :: r)
termination_by l.length
decreasing_by simp; omega
def pagesR (k : Nat) (l : List Ln) : Option (List (List Ln) × List Ln) :=
  match l with
  | [] => none
  | s :: r =>
    if (kd s).1 = 8 then some ([], r)
    else if num (kd s).2 = some (k + 1) then
      match h : bodyR false r with
      | none => none
      | some x => (pagesR (k + 1) x.2).map fun y => (x.1 :: y.1, y.2)
    else none
termination_by l.length
decreasing_by have := bodyR_len h; simp; omega
theorem pagesR_cons (k : Nat) (s : Ln) (r : List Ln) : pagesR k (s :: r) = if (kd s).1 = 8 then some ([], r) else if num (kd s).2 = some (k + 1) then (bodyR false r).bind (fun x => (pagesR (k + 1) x.2).map fun y => (x.1 :: y.1, y.2)) else none := by
  rw [pagesR]
  split
  · rfl
  split
  · split
    · rename_i h; rw [h]; rfl
    · rename_i x h; rw [h]; rfl
  · rfl
def pagesT (e : Ln) : Option (List (List Ln) × List Ln) → Option (List (List Ln) × List Ln)
  | some (ps, s :: r) => if s = wTrailer then some (ps, r ++ [e]) else none
  | _ => none
theorem pagesT_cons (e : Ln) (p : List Ln) (o : Option (List (List Ln) × List Ln)) : pagesT e (o.map fun x => (p :: x.1, x.2)) = (pagesT e o).map fun x => (p :: x.1, x.2) := by
  match o with
  | none => rfl
  | some (ps, []) => rfl
  | some (ps, s :: r) =>
    show (if s = wTrailer then some (p :: ps, r ++ [e]) else none) = Option.map _ (if s = wTrailer then some (ps, r ++ [e]) else none)
    split <;> rfl
theorem trailer_page {x : Ln} (h : wTrailer = wPage ++ x) : False := by
  simp [wTrailer, wPage] at h
theorem pages_eq (e : Ln) (he : e = wEof) : ∀ (n : Nat) (l : List Ln) (k : Nat), l.length ≤ n → (∀ s, l[0]? = some s → (kd s).1 = 7 ∨ (kd s).1 = 8) → pagesR k (l ++ [e]) = pagesT e (pagesP k l) := by
  intro n
  induction n with
  | zero =>
    intro l k hl _
    have : l = [] := List.length_eq_zero_iff.1 (by omega)
    subst this
    subst he
    have h9 : kd wEof = (9, []) := by decide
    rw [List.nil_append, pagesR_cons, h9, pagesP]
    rfl
  | succ n ih =>
    intro l k hl hd
    cases l with
    | nil =>
      subst he
      have h9 : kd wEof = (9, []) := by decide
      rw [List.nil_append, pagesR_cons, h9, pagesP]
      rfl
    | cons s r =>
      rw [List.cons_append, pagesR_cons, pagesP]
      rcases hd s rfl with k7 | k8
      · have k8 : ¬ (kd s).1 = 8 := by omega
        rw [if_neg k8]
        obtain ⟨hs, hx⟩ := kd_7 k7
        by_cases c : num (kd s).2 = some (k + 1)
        · rw [if_pos c]
          have c' := (num_eq_dec hx).1 c
          rw [c'] at hs
          rw [if_pos hs, body_eq e he]
          cases hb : bodyP false r with
          | none => rfl
          | some x =>
            obtain ⟨m, ok⟩ := x
            cases ok with
            | false => rfl
            | true =>
              have hm := bodyP_le r false m true hb
              by_cases hlt : m < r.length
              · simp only [bodyT, if_pos hlt, Option.bind_some]
                rw [pagesT_cons, ih (r.drop m) (k + 1) (by simp at hl ⊢; omega)]
                intro t ht
                obtain ⟨t', h1, h2⟩ := bodyP_head r false m hb hlt
                rw [List.getElem?_drop, Nat.add_zero, h1] at ht
                cases ht
                exact h2
              · have : r.drop m = [] := List.drop_eq_nil_of_le (by omega)
                simp only [bodyT, if_neg hlt, Option.bind_none]
                rw [this, pagesP]; rfl
        · rw [if_neg c]
          have hs' : ¬ s = wPage ++ dec (k + 1) := by
            intro e1
            exact c ((num_eq_dec hx).2 (List.append_cancel_left (hs.symm.trans e1)))
          rw [if_neg hs']
          show none = if s = wTrailer then _ else _
          rw [if_neg]
          intro e1
          exact k8 (kd_8.2 e1)
      · rw [if_pos k8]
        have hs := kd_8.1 k8
        rw [if_neg (fun e1 => trailer_page (hs.symm.trans e1))]
        show _ = if s = wTrailer then _ else _
        rw [if_pos hs]
theorem pagesR_suf : ∀ (n : Nat) (l : List Ln) (k : Nat) (ps : List (List Ln)) (r : List Ln), l.length ≤ n → pagesR k l = some (ps, r) → ∃ p, l = p ++ r := by
  intro n
  induction n with
  | zero =>
    intro l k ps r hl h
    have : l = [] := List.length_eq_zero_iff.1 (by omega)
    subst this
    rw [pagesR] at h; cases h
  | succ n ih =>
    intro l k ps r hl h
    cases l with
    | nil => rw [pagesR] at h; cases h
    | cons s t =>
      rw [pagesR_cons] at h
      split at h
      · cases h; exact ⟨[s], rfl⟩
      split at h
      · cases hb : bodyR false t with
        | none => rw [hb] at h; cases h
        | some x =>
          rw [hb, Option.bind_some] at h
          cases hp : pagesR (k + 1) x.2 with
          | none => rw [hp] at h; cases h
          | some y =>
            obtain ⟨y1, y2⟩ := y
            rw [hp] at h
            cases h
            have := bodyR_len hb
            obtain ⟨p, e⟩ := ih x.2 (k + 1) y1 y2 (by simp at hl; omega) hp
            exact ⟨s :: (x.1 ++ p), by rw [bodyR_suf t false x.1 x.2 hb, e]; simp⟩
      · cases h
theorem headR_suf : ∀ (l : List Ln) (a : Option Nat) (b : Option Ln) (x : Option Nat × Option Ln × List Ln × List Ln), headR l a b = some x → ∃ p, l = p ++ x.2.2.2
  | [], a, b, x, h => by rw [headR] at h; cases h
  | s :: t, a, b, x, h => by
    have st : ∀ a' b', (headR t a' b').map (fun x => (x.1, x.2.1, s :: x.2.2.1, x.2.2.2)) = some x → ∃ p, s :: t = p ++ x.2.2.2 := by
      intro a' b' h
      cases hb : headR t a' b' with
      | none => rw [hb] at h; cases h
      | some y =>
        rw [hb] at h
        cases h
        obtain ⟨p, e⟩ := headR_suf t a' b' y hb
        exact ⟨s :: p, by rw [e]; rfl⟩
    rw [headR] at h
    repeat' split at h
    all_goals first | exact st _ _ h | (cases h; done) | (cases h; exact ⟨[s], rfl⟩)
def trailR : List Ln → Option (List Ln)
  | [] => none
  | s :: r => if (kd s).1 = 0 then (trailR r).map (s :: ·) else if (kd s).1 = 9 ∧ r = [] then some [] else none
def plainL (l : List Ln) : Bool := l.all fun s => (kd s).1 == 0
theorem trail_eq (e : Ln) (he : e = wEof) : ∀ l : List Ln, trailR (l ++ [e]) = if plainL l = true then some l else none
  | [] => by
    subst he
    have h9 : (kd wEof).1 = 9 := kd_9.2 rfl
    show trailR [wEof] = _
    rw [trailR, h9]; rfl
  | s :: r => by
    rw [List.cons_append, trailR, trail_eq e he r]
    unfold plainL
    rw [List.all_cons]
    by_cases k0 : (kd s).1 = 0
    · rw [if_pos k0, k0]
      cases h : r.all fun s => (kd s).1 == 0 with
      | true => rfl
      | false => rfl
    · rw [if_neg k0, if_neg (by simp), if_neg (by simp [k0])]
theorem trailR_end : ∀ (l t : List Ln), trailR l = some t → l = t ++ [wEof]
  | [], t, h => by rw [trailR] at h; cases h
  | s :: r, t, h => by
    rw [trailR] at h
    split at h
    · cases hr : trailR r with
      | none => rw [hr] at h; cases h
      | some u =>
        rw [hr] at h
        cases h
        rw [trailR_end r u hr]; rfl
    split at h
    · rename_i c
      cases h
      rw [c.2, kd_9.1 c.1]; rfl
    · cases h
structure Doc where
  title : Ln
  header : List Ln
  prologue : List Ln
  pages : List (List Ln)
  trailer : List Ln
def agrees (told : Option Nat) (n : Nat) : Bool := told == none || told == some n
def parseR (l : List Ln) : Option Doc :=
  match l with
  | [] => none
  | s :: r =>
    if s = wFirst then
      (headR r none none).bind fun x => (bodyR false x.2.2.2).bind fun y => (pagesR 0 y.2).bind fun z =>
        if agrees x.1 z.1.length = true then (trailR z.2).map fun t => ⟨x.2.1.getD [], x.2.2.1, y.1, z.1, t⟩ else none
    else none
def endP (y : HS) (h p : List Ln) : Option (List (List Ln) × List Ln) → Option Doc
  | some (ps, s :: t) => if y.titles ≤ 1 ∧ y.counts ≤ 1 ∧ s = wTrailer ∧ (y.counts = 1 → y.told = dec ps.length) ∧ plainL t = true then some ⟨y.title, h, p, ps, t⟩ else none
  | _ => none
def restP (y : HS) (h r : List Ln) : Option (Nat × Bool) → Option Doc
  | some (n, true) => endP y h (r.take n) (pagesP 0 (r.drop n))
  | _ => none
def midP (m : List Ln) : Option Doc :=
  (cutH m).bind fun x => (headP x.1 ⟨[], 0, [], 0⟩).bind fun y => restP y x.1 x.2 (bodyP false x.2)
def parseP (l : List Ln) : Option Doc :=
  if 4 ≤ l.length ∧ l[0]? = some wFirst ∧ l[l.length - 1]? = some wEof then midP ((l.drop 1).take (l.length - 2)) else none
theorem agrees_eq {y : HS} {n : Nat} (h1 : y.counts ≤ 1) (h : y.counts = 1 → isNum y.told = true) : agrees (tld y) n = true ↔ (y.counts = 1 → y.told = dec n) := by
  unfold agrees tld
  by_cases c : y.counts = 1
  · rw [if_pos c]
    have hx := h c
    rw [Bool.or_eq_true, beq_iff_eq, beq_iff_eq, num_eq_dec hx]
    constructor
    · rintro (h | h) _
      · unfold isNum at hx; rw [h] at hx; cases hx
      · exact h
    · intro h; exact .inr (h c)
  · rw [if_neg c]
    simp [c]
theorem mid_eq (m : List Ln) : ((headR (m ++ [wEof]) none none).bind fun x => (bodyR false x.2.2.2).bind fun y => (pagesR 0 y.2).bind fun z =>
        if agrees x.1 z.1.length = true then (trailR z.2).map fun t => (⟨x.2.1.getD [], x.2.2.1, y.1, z.1, t⟩ : Doc) else none) = midP m := by
  have h0 := head_eq wEof rfl m ⟨[], 0, [], 0⟩ (by simp) (by simp) (by simp)
  have e1 : tld ⟨[], 0, [], 0⟩ = none := rfl
  have e2 : til ⟨[], 0, [], 0⟩ = none := rfl
  rw [e1, e2] at h0
  rw [h0]
  unfold midP
  cases hc : cutH m with
  | none => rfl
  | some x =>
    obtain ⟨h, r⟩ := x
    rw [Option.bind_some]
    simp only [headT]
    cases hp : headP h ⟨[], 0, [], 0⟩ with
    | none => rfl
    | some y =>
      have ht := headP_title h _ y hp (fun _ => rfl)
      have hn := headP_told h _ y hp (by simp) (by simp)
      rw [Option.bind_some]
      simp only
      by_cases hy : y.titles ≤ 1 ∧ y.counts ≤ 1
      · rw [if_pos hy, Option.bind_some]
        simp only
        rw [body_eq wEof rfl]
        cases hb : bodyP false r with
        | none => rfl
        | some z =>
          obtain ⟨n, ok⟩ := z
          cases ok with
          | false => rfl
          | true =>
            simp only [bodyT, restP]
            have hle := bodyP_le r false n true hb
            by_cases hlt : n < r.length
            · rw [if_pos hlt, Option.bind_some]
              simp only
              rw [pages_eq wEof rfl r.length (r.drop n) 0 (by simp)]
              · match hpp : pagesP 0 (r.drop n) with
                | none => rfl
                | some (ps, []) => rfl
                | some (ps, s :: t) =>
                  simp only [pagesT, endP]
                  by_cases hs : s = wTrailer
                  · rw [if_pos hs, Option.bind_some]
                    simp only
                    rw [trail_eq wEof rfl]
                    have ha := agrees_eq (n := ps.length) hy.2 hn
                    by_cases hg : agrees (tld y) ps.length = true
                    · rw [if_pos hg]
                      by_cases hpl : plainL t = true
                      · rw [if_pos hpl, if_pos ⟨hy.1, hy.2, hs, ha.1 hg, hpl⟩]
                        have : (til y).getD [] = y.title := by
                          unfold til
                          by_cases c : y.titles = 1
                          · rw [if_pos c]; rfl
                          · rw [if_neg c, ht (by omega)]; rfl
                        simp only [Option.map_some]
                        rw [this]
                      · rw [if_neg hpl, if_neg (fun c => hpl c.2.2.2.2)]; rfl
                    · rw [if_neg hg, if_neg (fun c => hg (ha.2 c.2.2.2.1))]
                  · rw [if_neg hs, if_neg (fun c => hs c.2.2.1)]; rfl
              · intro t ht
                obtain ⟨t', g1, g2⟩ := bodyP_head r false n hb hlt
                rw [List.getElem?_drop, Nat.add_zero, g1] at ht
                cases ht
                exact g2
            · have : r.drop n = [] := List.drop_eq_nil_of_le (by omega)
              rw [if_neg hlt, this, pagesP]; rfl
      · rw [if_neg hy]
        show none = _
        cases hb : bodyP false r with
        | none => rfl
        | some z =>
          obtain ⟨n, ok⟩ := z
          cases ok with
          | false => rfl
          | true =>
            simp only [restP]
            match hpp : pagesP 0 (r.drop n) with
            | none => rfl
            | some (ps, []) => rfl
            | some (ps, s :: t) =>
              simp only [endP]
              rw [if_neg (fun c => hy ⟨c.1, c.2.1⟩)]
theorem midP_len {m : List Ln} {d : Doc} (h : midP m = some d) : 2 ≤ m.length := by
  unfold midP at h
  cases hc : cutH m with
  | none => rw [hc] at h; cases h
  | some x =>
    obtain ⟨hd, r⟩ := x
    rw [hc, Option.bind_some] at h
    simp only at h
    have hl := cutH_len hc
    cases r with
    | cons _ _ => simp at hl; omega
    | nil =>
      cases hp : headP hd ⟨[], 0, [], 0⟩ with
      | none => rw [hp] at h; cases h
      | some y =>
        rw [hp, Option.bind_some, bodyP] at h
        simp only [restP, Bool.not_false] at h
        rw [List.drop_nil, pagesP] at h
        cases h
theorem parse_eq (l : List Ln) : parseR l = parseP l := by
  by_cases hf : ∃ m, l = wFirst :: (m ++ [wEof])
  · obtain ⟨m, rfl⟩ := hf
    have e1 : parseR (wFirst :: (m ++ [wEof])) = midP m := by
      rw [parseR, if_pos rfl]; exact mid_eq m
    rw [e1]
    unfold parseP
    have hl : (wFirst :: (m ++ [wEof])).length = m.length + 2 := by simp
    rw [hl]
    have h2 : (wFirst :: (m ++ [wEof]))[m.length + 2 - 1]? = some wEof := by
      rw [show m.length + 2 - 1 = m.length + 1 by omega, List.getElem?_cons_succ, List.getElem?_append_right (Nat.le_refl _), Nat.sub_self]; rfl
    have h3 : ((wFirst :: (m ++ [wEof])).drop 1).take (m.length + 2 - 2) = m := by
      simp
    by_cases h4 : 4 ≤ m.length + 2
    · rw [if_pos ⟨h4, rfl, h2⟩, h3]
    · rw [if_neg (fun c => h4 c.1)]
      cases hm : midP m with
      | none => rfl
      | some d => have := midP_len hm; omega
  · have e1 : parseR l = none := by
      cases l with
      | nil => rfl
      | cons s r =>
        rw [parseR]
        by_cases hs : s = wFirst
        · rw [if_pos hs]
          cases hh : headR r none none with
          | none => rfl
          | some x =>
            rw [Option.bind_some]
            obtain ⟨p1, g1⟩ := headR_suf _ _ _ _ hh
            cases hb : bodyR false x.2.2.2 with
            | none => rfl
            | some y =>
              rw [Option.bind_some]
              have g2 := bodyR_suf _ _ _ _ hb
              cases hp : pagesR 0 y.2 with
              | none => rfl
              | some z =>
                rw [Option.bind_some]
                obtain ⟨z1, z2⟩ := z
                obtain ⟨p3, g3⟩ := pagesR_suf _ _ _ _ _ (Nat.le_refl _) hp
                split
                · cases ht : trailR z2 with
                  | none => rfl
                  | some t =>
                    have g4 := trailR_end _ _ ht
                    refine absurd ⟨p1 ++ (y.1 ++ (p3 ++ t)), ?_⟩ hf
                    rw [hs, g1, g2, g3, g4]
                    simp
                · rfl
        · rw [if_neg hs]
    rw [e1]
    unfold parseP
    rw [if_neg]
    rintro ⟨c1, c2, c3⟩
    refine hf ⟨(l.drop 1).take (l.length - 2), ?_⟩
    apply List.ext_getElem?
    intro i
    cases i with
    | zero => rw [c2]; rfl
    | succ i =>
      rw [List.getElem?_cons_succ]
      have hlen : ((l.drop 1).take (l.length - 2)).length = l.length - 2 := by simp; omega
      by_cases hi : i < l.length - 2
      · rw [List.getElem?_append_left (by omega), List.getElem?_take_of_lt hi, List.getElem?_drop, Nat.add_comm]
      · rw [List.getElem?_append_right (by omega), hlen]
        by_cases hi2 : i = l.length - 2
        · subst hi2
          rw [Nat.sub_self, show l.length - 2 + 1 = l.length - 1 by omega, c3]; rfl
        · rw [List.getElem?_eq_none (by omega), List.getElem?_eq_none (by simp; omega)]
def lnsF (x : List Ln × Ln) (c : UInt8) : List Ln × Ln := if c = 10 then (x.1 ++ [x.2], []) else (x.1, x.2 ++ [c])
def lns (s : Ln) : List Ln × Ln := s.foldl lnsF ([], [])
theorem lns_snoc (s : Ln) (c : UInt8) : lns (s ++ [c]) = lnsF (lns s) c := by
  unfold lns; rw [List.foldl_append]; rfl
theorem foldl_plain : ∀ (s : Ln) (x : List Ln × Ln), 10 ∉ s → s.foldl lnsF x = (x.1, x.2 ++ s)
  | [], x, _ => by simp
  | c :: r, x, h => by
    rw [List.mem_cons, not_or] at h
    rw [List.foldl_cons, foldl_plain r _ h.2]
    unfold lnsF
    rw [if_neg (fun e => h.1 e.symm)]
    simp
theorem foldl_more : ∀ (s : Ln) (a b : List Ln) (c : Ln), s.foldl lnsF (a ++ b, c) = (a ++ (s.foldl lnsF (b, c)).1, (s.foldl lnsF (b, c)).2)
  | [], a, b, c => rfl
  | d :: r, a, b, c => by
    rw [List.foldl_cons, List.foldl_cons]
    have : lnsF (a ++ b, c) d = (a ++ (lnsF (b, c) d).1, (lnsF (b, c) d).2) := by
      unfold lnsF
      split
      · simp
      · rfl
    rw [this, foldl_more r a]
theorem lns_cut {a b : Ln} (h : 10 ∉ a) : lns (a ++ 10 :: b) = (a :: (lns b).1, (lns b).2) := by
  unfold lns
  rw [List.foldl_append, foldl_plain a _ h, List.foldl_cons]
  have : lnsF ((([] : List Ln), ([] : Ln)).1, (([] : List Ln), ([] : Ln)).2 ++ a) 10 = ([a] ++ [], []) := by
    unfold lnsF; simp
  rw [this, foldl_more]; rfl
open Go.Lib in
theorem index_ten : ∀ s : Ln, (index s [10] = -1 ∧ 10 ∉ s) ∨ ∃ a b, s = a ++ 10 :: b ∧ 10 ∉ a ∧ index s [10] = (a.length : Int)
  | [] => .inl ⟨rfl, by simp⟩
  | c :: r => by
    rw [index]
    by_cases hc : c = 10
    · subst hc
      exact .inr ⟨[], r, rfl, by simp, by rw [if_pos (by simp [List.isPrefixOf])]; rfl⟩
    · have hp : ¬ (([10] : Ln).isPrefixOf (c :: r) = true) := by
        simp [List.isPrefixOf]; exact fun e => hc e.symm
      rw [if_neg hp]
      rcases index_ten r with ⟨h1, h2⟩ | ⟨a, b, h1, h2, h3⟩
      · refine .inl ⟨by rw [h1]; rfl, ?_⟩
        rw [List.mem_cons, not_or]
        exact ⟨fun e => hc e.symm, h2⟩
      · refine .inr ⟨c :: a, b, by rw [h1]; rfl, ?_, ?_⟩
        · rw [List.mem_cons, not_or]
          exact ⟨fun e => hc e.symm, h2⟩
        · rw [h3, if_neg (by simp)]; simp
open Go.Lib in
theorem split_lns : ∀ (n : Nat) (s : Ln), s.length ≤ n → split s [10] = (lns s).1 ++ [(lns s).2] := by
  intro n
  induction n with
  | zero =>
    intro s hs
    have : s = [] := List.length_eq_zero_iff.1 (by omega)
    subst this
    decide
  | succ n ih =>
    intro s hs
    unfold split
    rcases index_ten s with ⟨h1, h2⟩ | ⟨a, b, h1, h2, h3⟩
    · rw [count_miss h1]
      have : lns s = ([], s) := by unfold lns; rw [foldl_plain s _ h2]; rfl
      rw [this]; rfl
    · have hb := ih b (by rw [h1] at hs; simp at hs; omega)
      unfold split at hb
      rw [count_hit (by simp) h3]
      have hd : s.drop (a.length + ([10] : Ln).length) = b := by
        rw [h1]; simp [List.drop_append]
      have ht : s.take a.length = a := by rw [h1]; simp
      rw [hd, Nat.add_comm, splitK, if_neg (by rw [h3]; simp), h3]
      simp only [Int.toNat_natCast, Nat.add_zero]
      rw [hd, ht, hb, h1, lns_cut h2]; rfl
def docR (s : Ln) : Option Doc := if 20000 < s.length ∨ (lns s).2 ≠ [] then none else parseR (lns s).1
end Go.Pg
