/-
  Pages: the kinds of lines, and that two readers of lines find the same document. No program in this text.
-/
import Derived.Lib.ItoaNum
import Derived.Lib.Split
set_option linter.unusedVariables false
set_option linter.unusedSimpArgs false
namespace Go.Pg
abbrev Ln := List UInt8
abbrev dec (n : Nat) : Ln := Go.Lib.decDigits n
def wFirst : Ln := [37, 33, 68, 111, 99]
def wTitle : Ln := [37, 37, 84, 105, 116, 108, 101, 58, 32]
def wPages : Ln := [37, 37, 80, 97, 103, 101, 115, 58, 32]
def wEndHeader : Ln := [37, 37, 69, 110, 100, 72, 101, 97, 100, 101, 114]
def wInclude : Ln := [37, 37, 73, 110, 99, 108, 117, 100, 101, 58, 32]
def wBegin : Ln := [37, 37, 66, 101, 103, 105, 110, 58, 32]
def wEnd : Ln := [37, 37, 69, 110, 100]
def wPage : Ln := [37, 37, 80, 97, 103, 101, 58, 32]
def wTrailer : Ln := [37, 37, 84, 114, 97, 105, 108, 101, 114]
def wEof : Ln := [37, 37, 69, 79, 70]
def digs : Ln → Nat → Option Nat
  | [], n => some n
  | c :: r, n => if c < 48 ∨ 57 < c then none else digs r (10 * n + (c.toNat - 48))
def num (s : Ln) : Option Nat := if s.length < 1 ∨ 3 < s.length ∨ (1 < s.length ∧ s[0]? = some 48) then none else digs s 0
def isNum (s : Ln) : Bool := (num s).isSome
def dg (d : Nat) : UInt8 := UInt8.ofNat (48 + d)
theorem dg_fin : ∀ d : Fin 10, ¬ (dg d.1 < 48 ∨ 57 < dg d.1) ∧ (dg d.1).toNat - 48 = d.1 := by decide
theorem dg_ok {d : Nat} (h : d < 10) : ¬ (dg d < 48 ∨ 57 < dg d) ∧ (dg d).toNat - 48 = d := dg_fin ⟨d, h⟩
theorem dg_zero : ∀ d : Fin 10, dg d.1 = 48 → d.1 = 0 := by decide
theorem digs_cons {c : UInt8} {r : Ln} {n d : Nat} (h : d < 10) (hc : c = dg d) : digs (c :: r) n = digs r (10 * n + d) := by
  subst hc
  rw [digs, if_neg (dg_ok h).1, (dg_ok h).2]
theorem dg_of {c : UInt8} (h : ¬ (c < 48 ∨ 57 < c)) : ∃ d, d < 10 ∧ c = dg d := by
  have h1 : 48 ≤ c.toNat ∧ c.toNat ≤ 57 := by
    rw [UInt8.lt_iff_toNat_lt, UInt8.lt_iff_toNat_lt] at h
    have e1 : (48 : UInt8).toNat = 48 := rfl
    have e2 : (57 : UInt8).toNat = 57 := rfl
    omega
  refine ⟨c.toNat - 48, by omega, ?_⟩
  unfold dg
  rw [show 48 + (c.toNat - 48) = c.toNat by omega, UInt8.ofNat_toNat]
theorem dec_one {n : Nat} (h : n < 10) : dec n = [dg n] := Go.Lib.decDigits_one h
theorem dec_two {n : Nat} (h1 : ¬ n < 10) (h2 : n < 100) : dec n = [dg (n / 10), dg (n % 10)] := Go.Lib.decDigits_two h1 h2
theorem dec_step {n : Nat} (h1 : ¬ n < 10) : dec n = dec (n / 10) ++ [dg (n % 10)] := by
  show Go.Lib.decDigits n = _
  rw [Go.Lib.decDigits, dif_neg h1]; rfl
theorem dec_three {n : Nat} (h1 : ¬ n < 100) (h2 : n < 1000) : dec n = [dg (n / 100), dg (n / 10 % 10), dg (n % 10)] := by
  rw [dec_step (by omega), dec_two (by omega) (by omega), show n / 10 / 10 = n / 100 by omega]; rfl
theorem num_dec {n : Nat} (h : n ≤ 999) : num (dec n) = some n := by
  by_cases h1 : n < 10
  · rw [dec_one h1]
    unfold num
    rw [if_neg (by simp), digs_cons h1 rfl, digs]; simp
  · by_cases h2 : n < 100
    · rw [dec_two h1 h2]
      unfold num
      have hz : dg (n / 10) ≠ 48 := fun e => by have := dg_zero ⟨n / 10, by omega⟩ e; simp only at this; omega
      rw [if_neg (by simp [hz]), digs_cons (d := n / 10) (by omega) rfl, digs_cons (d := n % 10) (by omega) rfl, digs]
      congr 1; omega
    · rw [dec_three h2 (by omega)]
      unfold num
      have hz : dg (n / 100) ≠ 48 := fun e => by have := dg_zero ⟨n / 100, by omega⟩ e; simp only at this; omega
      rw [if_neg (by simp [hz]), digs_cons (d := n / 100) (by omega) rfl, digs_cons (d := n / 10 % 10) (by omega) rfl, digs_cons (d := n % 10) (by omega) rfl, digs]
      congr 1; omega
theorem digs_some {c : UInt8} {r : Ln} {n m : Nat} (h : digs (c :: r) n = some m) : ∃ d, d < 10 ∧ c = dg d ∧ digs r (10 * n + d) = some m := by
  rw [digs] at h
  split at h
  · cases h
  · rename_i hc
    obtain ⟨d, hd, e⟩ := dg_of hc
    refine ⟨d, hd, e, ?_⟩
    rw [e, (dg_ok hd).2] at h
    exact h
theorem num_some {s : Ln} {n : Nat} (h : num s = some n) : n ≤ 999 ∧ s = dec n := by
  unfold num at h
  split at h
  · cases h
  rename_i hc
  cases s with
  | nil => simp at hc
  | cons a t =>
  obtain ⟨d, hd, e1, h1⟩ := digs_some h
  clear h
  cases t with
  | nil =>
    rw [digs] at h1
    have h1 := Option.some.inj h1
    subst h1; subst e1
    rw [show 10 * 0 + d = d by omega]
    exact ⟨by omega, (dec_one hd).symm⟩
  | cons b t =>
  obtain ⟨d2, hd2, e2, h2⟩ := digs_some h1
  clear h1
  have hz : d ≠ 0 := fun e => by subst e; subst e1; simp [dg] at hc
  cases t with
  | nil =>
    rw [digs] at h2
    have h2 := Option.some.inj h2
    subst h2; subst e1; subst e2
    refine ⟨by omega, ?_⟩
    rw [dec_two (by omega) (by omega), show (10 * (10 * 0 + d) + d2) / 10 = d by omega, show (10 * (10 * 0 + d) + d2) % 10 = d2 by omega]
  | cons c t =>
  obtain ⟨d3, hd3, e3, h3⟩ := digs_some h2
  clear h2
  cases t with
  | nil =>
    rw [digs] at h3
    have h3 := Option.some.inj h3
    subst h3; subst e1; subst e2; subst e3
    refine ⟨by omega, ?_⟩
    rw [dec_three (by omega) (by omega), show (10 * (10 * (10 * 0 + d) + d2) + d3) / 100 = d by omega, show (10 * (10 * (10 * 0 + d) + d2) + d3) / 10 % 10 = d2 by omega, show (10 * (10 * (10 * 0 + d) + d2) + d3) % 10 = d3 by omega]
  | cons e t => simp at hc
def val (s : Ln) : Nat := s.foldl (fun n c => 10 * n + (c.toNat - 48)) 0
theorem val_dec (n : Nat) : val (dec n) = n := by
  induction n using Nat.strongRecOn with
  | _ n ih =>
    by_cases h : n < 10
    · rw [dec_one h]; simp only [val, List.foldl_cons, List.foldl_nil, (dg_ok h).2]; omega
    · rw [dec_step h]
      unfold val
      rw [List.foldl_append]
      have := ih (n / 10) (by omega)
      unfold val at this
      rw [this]
      simp only [List.foldl_cons, List.foldl_nil, (dg_ok (show n % 10 < 10 by omega)).2]; omega
theorem dec_inj {a b : Nat} (h : dec a = dec b) : a = b := by
  have := congrArg val h
  rwa [val_dec, val_dec] at this
theorem isNum_dec {n : Nat} (h : n ≤ 999) : isNum (dec n) = true := by unfold isNum; rw [num_dec h]; rfl
theorem num_eq_dec {x : Ln} (hx : isNum x = true) {k : Nat} : num x = some k ↔ x = dec k := by
  refine ⟨fun h => (num_some h).2, fun h => ?_⟩
  unfold isNum at hx
  obtain ⟨m, hm⟩ := Option.isSome_iff_exists.1 hx
  have := (num_some hm).2
  rw [h] at this
  rw [hm, dec_inj this]
def nmc (c : UInt8) : Bool := !((c < 97 || 122 < c) && (c < 48 || 57 < c) && c != 45)
def isNm (s : Ln) : Bool := s.all nmc && decide (1 ≤ s.length) && decide (s.length ≤ 20)
def ex (s : Ln) : Nat := if s = wEndHeader then 3 else if s = wEnd then 6 else if s = wTrailer then 8 else if s = wEof then 9 else 0
def px (s : Ln) : Option (Nat × Ln) :=
  if wTitle.isPrefixOf s then some (1, s.drop 9)
  else if wPages.isPrefixOf s && isNum (s.drop 9) then some (2, s.drop 9)
  else if wInclude.isPrefixOf s && isNm (s.drop 11) then some (4, s.drop 11)
  else if wBegin.isPrefixOf s && isNm (s.drop 9) then some (5, s.drop 9)
  else if wPage.isPrefixOf s && isNum (s.drop 8) then some (7, s.drop 8)
  else none
def kd (s : Ln) : Nat × Ln := (px s).getD (ex s, [])
def kw (s : Ln) : Nat × Ln := if ex s ≠ 0 then (ex s, []) else (px s).getD (0, [])
theorem ex_px {s : Ln} (h : ex s ≠ 0) : px s = none := by
  unfold ex at h
  split at h
  · rename_i e; subst e; decide
  · split at h
    · rename_i e; subst e; decide
    · split at h
      · rename_i e; subst e; decide
      · split at h
        · rename_i e; subst e; decide
        · exact absurd rfl h
theorem kw_kd (s : Ln) : kw s = kd s := by
  unfold kw kd
  split
  · rename_i h; rw [ex_px h]; rfl
  · rename_i h
    have : ex s = 0 := by omega
    rw [this]
def cmt (s : Ln) : Bool := [37, 37].isPrefixOf s
theorem px_kinds {s : Ln} {k : Nat} {x : Ln} (h : px s = some (k, x)) : k = 1 ∨ k = 2 ∨ k = 4 ∨ k = 5 ∨ k = 7 := by
  unfold px at h
  repeat' split at h
  all_goals (try cases h)
  all_goals simp
theorem ex_kinds (s : Ln) : ex s = 3 ∨ ex s = 6 ∨ ex s = 8 ∨ ex s = 9 ∨ ex s = 0 := by
  unfold ex
  repeat' split
  all_goals simp
theorem kd_ex {s : Ln} {k : Nat} (hk : k = 3 ∨ k = 6 ∨ k = 8 ∨ k = 9) : (kd s).1 = k ↔ ex s = k := by
  unfold kd
  cases h : px s with
  | none => rfl
  | some p =>
    obtain ⟨j, x⟩ := p
    have h1 := px_kinds h
    have h2 : ex s = 0 := by
      cases Nat.decEq (ex s) 0 with
      | isTrue e => exact e
      | isFalse e => rw [ex_px e] at h; cases h
    rw [h2]
    show j = k ↔ 0 = k
    constructor <;> intro e <;> omega
theorem kd_3 {s : Ln} : (kd s).1 = 3 ↔ s = wEndHeader := by
  rw [kd_ex (by simp)]
  refine ⟨fun h => ?_, fun h => by subst h; decide⟩
  unfold ex at h
  repeat' split at h
  all_goals first | assumption | cases h
theorem kd_8 {s : Ln} : (kd s).1 = 8 ↔ s = wTrailer := by
  rw [kd_ex (by simp)]
  refine ⟨fun h => ?_, fun h => by subst h; decide⟩
  unfold ex at h
  repeat' split at h
  all_goals first | assumption | cases h
theorem kd_9 {s : Ln} : (kd s).1 = 9 ↔ s = wEof := by
  rw [kd_ex (by simp)]
  refine ⟨fun h => ?_, fun h => by subst h; decide⟩
  unfold ex at h
  repeat' split at h
  all_goals first | assumption | cases h
theorem pre_of {p s : Ln} (h : p.isPrefixOf s = true) : s = p ++ s.drop p.length := by
  obtain ⟨t, rfl⟩ := List.isPrefixOf_iff_prefix.1 h
  simp
theorem kd_px {s : Ln} {k : Nat} (h : (kd s).1 = k) (hk : k = 1 ∨ k = 2 ∨ k = 4 ∨ k = 5 ∨ k = 7) : px s = some (k, (kd s).2) := by
  unfold kd at h ⊢
  cases hp : px s with
  | none =>
    rw [hp] at h
    have h : ex s = k := h
    have := ex_kinds s
    omega
  | some p =>
    rw [hp] at h
    obtain ⟨j, x⟩ := p
    have h : j = k := h
    rw [h]; rfl
theorem kd_7 {s : Ln} (h : (kd s).1 = 7) : s = wPage ++ (kd s).2 ∧ isNum (kd s).2 = true := by
  have h1 := kd_px h (by simp)
  generalize (kd s).2 = x at h1 ⊢
  unfold px at h1
  repeat' split at h1
  all_goals (try cases h1)
  rename_i e
  rw [Bool.and_eq_true] at e
  exact ⟨pre_of e.1, e.2⟩
theorem kd_2 {s : Ln} (h : (kd s).1 = 2) : s = wPages ++ (kd s).2 ∧ isNum (kd s).2 = true := by
  have h1 := kd_px h (by simp)
  generalize (kd s).2 = x at h1 ⊢
  unfold px at h1
  repeat' split at h1
  all_goals (try cases h1)
  rename_i e
  rw [Bool.and_eq_true] at e
  exact ⟨pre_of e.1, e.2⟩
theorem kd_page {x : Ln} (h : isNum x = true) : kd (wPage ++ x) = (7, x) := by
  have h1 : px (wPage ++ x) = some (7, x) := by
    unfold px
    rw [if_neg (by simp [wTitle, wPage, List.isPrefixOf]), if_neg (by simp [wPages, wPage, List.isPrefixOf]), if_neg (by simp [wInclude, wPage, List.isPrefixOf]), if_neg (by simp [wBegin, wPage, List.isPrefixOf]), if_pos]
    · simp [wPage]
    · simp [wPage, List.isPrefixOf, h]
  unfold kd
  rw [h1]; rfl
theorem kd_le (s : Ln) : (kd s).1 ≤ 9 := by
  unfold kd
  cases h : px s with
  | none => have := ex_kinds s; show ex s ≤ 9; omega
  | some p => obtain ⟨j, x⟩ := p; have := px_kinds h; show j ≤ 9; omega
def bodyP : Bool → List Ln → Option (Nat × Bool)
  | b, [] => some (0, !b)
  | b, s :: r =>
    if b && (kd s).1 == 6 then (bodyP false r).map fun x => (x.1 + 1, x.2)
    else if b && cmt s then none
    else if b || (kd s).1 == 0 || (kd s).1 == 4 then (bodyP b r).map fun x => (x.1 + 1, x.2)
    else if (kd s).1 == 5 then (bodyP true r).map fun x => (x.1 + 1, x.2)
    else some (0, (kd s).1 == 7 || (kd s).1 == 8)
def bodyR : Bool → List Ln → Option (List Ln × List Ln)
  | _, [] => none
  | b, s :: r =>
    if b && (kd s).1 == 6 then (bodyR false r).map fun x => (s :: x.1, x.2)
    else if b && cmt s then none
    else if b then (bodyR b r).map fun x => (s :: x.1, x.2)
    else if (kd s).1 == 7 || (kd s).1 == 8 then some ([], s :: r)
    else if (kd s).1 == 5 then (bodyR true r).map fun x => (s :: x.1, x.2)
    else if (kd s).1 != 0 && (kd s).1 != 4 then none
    else (bodyR b r).map fun x => (s :: x.1, x.2)
def bodyT (l : List Ln) (e : Ln) : Option (Nat × Bool) → Option (List Ln × List Ln)
  | some (n, true) => if n < l.length then some (l.take n, l.drop n ++ [e]) else none
  | _ => none
theorem bodyT_cons (s : Ln) (l : List Ln) (e : Ln) (o : Option (Nat × Bool)) : bodyT (s :: l) e (o.map fun x => (x.1 + 1, x.2)) = (bodyT l e o).map fun x => (s :: x.1, x.2) := by
  match o with
  | none => rfl
  | some (n, false) => rfl
  | some (n, true) =>
    show (if n + 1 < (s :: l).length then some ((s :: l).take (n + 1), (s :: l).drop (n + 1) ++ [e]) else none) = Option.map _ (if n < l.length then some (l.take n, l.drop n ++ [e]) else none)
    by_cases h : n < l.length
    · rw [if_pos h, if_pos (by simpa using h)]; rfl
    · rw [if_neg h, if_neg (by simpa using h)]; rfl
theorem body_eq (e : Ln) (he : e = wEof) : ∀ (l : List Ln) (b : Bool), bodyR b (l ++ [e]) = bodyT l e (bodyP b l)
  | [], b => by
    subst he
    cases b <;> decide
  | s :: r, b => by
    have ih := body_eq e he r
    rw [List.cons_append, bodyR, bodyP]
    by_cases c1 : (b && (kd s).1 == 6) = true
    · rw [if_pos c1, if_pos c1, ih, bodyT_cons]
    rw [if_neg c1, if_neg c1]
    by_cases c2 : (b && cmt s) = true
    · rw [if_pos c2, if_pos c2]; rfl
    rw [if_neg c2, if_neg c2]
    cases b with
    | true => rw [if_pos rfl, if_pos (show (true || (kd s).1 == 0 || (kd s).1 == 4) = true by simp), ih, bodyT_cons]
    | false =>
      rw [if_neg (by simp)]
      by_cases c3 : ((kd s).1 == 7 || (kd s).1 == 8) = true
      · rw [if_pos c3]
        have c4 : (false || (kd s).1 == 0 || (kd s).1 == 4) ≠ true := by
          simp at c3 ⊢; omega
        have c5 : ((kd s).1 == 5) ≠ true := by
          simp at c3 ⊢; omega
        rw [if_neg c4, if_neg c5, c3]
        simp [bodyT]
      · rw [if_neg c3]
        by_cases c5 : ((kd s).1 == 5) = true
        · have c4 : (false || (kd s).1 == 0 || (kd s).1 == 4) ≠ true := by
            simp at c5 ⊢; omega
          rw [if_pos c5, if_neg c4, if_pos c5, ih, bodyT_cons]
        · rw [if_neg c5]
          by_cases c4 : (false || (kd s).1 == 0 || (kd s).1 == 4) = true
          · have c6 : ((kd s).1 != 0 && (kd s).1 != 4) ≠ true := by
              simp at c4 ⊢; omega
            rw [if_pos c4, if_neg c6, ih, bodyT_cons]
          · have c6 : ((kd s).1 != 0 && (kd s).1 != 4) = true := by
              simp at c4 ⊢; omega
            rw [if_neg c4, if_pos c6, if_neg c5]
            have c3 : ((kd s).1 == 7 || (kd s).1 == 8) = false := by simpa using c3
            rw [c3]; rfl
theorem bodyP_le : ∀ (l : List Ln) (b : Bool) (n : Nat) (k : Bool), bodyP b l = some (n, k) → n ≤ l.length := by
  intro l
  induction l with
  | nil => intro b n k h; rw [bodyP] at h; cases h; simp
  | cons s r ih =>
    intro b n k h
    have st : ∀ b', (bodyP b' r).map (fun x => (x.1 + 1, x.2)) = some (n, k) → n ≤ (s :: r).length := by
      intro b' h
      cases hb : bodyP b' r with
      | none => rw [hb] at h; cases h
      | some x =>
        obtain ⟨m, o⟩ := x
        rw [hb] at h
        cases h
        have := ih b' m _ hb
        simpa using this
    rw [bodyP] at h
    repeat' split at h
    all_goals first | exact st _ h | (cases h; done) | (cases h; simp)
theorem bodyP_head : ∀ (l : List Ln) (b : Bool) (n : Nat), bodyP b l = some (n, true) → n < l.length → ∃ s, l[n]? = some s ∧ ((kd s).1 = 7 ∨ (kd s).1 = 8) := by
  intro l
  induction l with
  | nil => intro b n h hn; simp at hn
  | cons s r ih =>
    intro b n h hn
    have st : ∀ b', (bodyP b' r).map (fun x => (x.1 + 1, x.2)) = some (n, true) → ∃ s', (s :: r)[n]? = some s' ∧ ((kd s').1 = 7 ∨ (kd s').1 = 8) := by
      intro b' h
      cases hb : bodyP b' r with
      | none => rw [hb] at h; cases h
      | some x =>
        obtain ⟨m, o⟩ := x
        rw [hb] at h
        cases h
        obtain ⟨t, h1, h2⟩ := ih b' m hb (by simpa using hn)
        exact ⟨t, by simpa using h1, h2⟩
    rw [bodyP] at h
    repeat' split at h
    all_goals first | exact st _ h | (cases h; done) | skip
    cases hk : ((kd s).1 == 7 || (kd s).1 == 8) with
    | false => rw [hk] at h; cases h
    | true =>
      rw [hk] at h
      cases h
      refine ⟨s, rfl, ?_⟩
      simpa using hk
end Go.Pg
