/-
  A document comes back from its pages: in plain lists.
-/
import Derived.Test.YtoinadgkjnbejaaDoorPgRev
set_option linter.unusedVariables false
namespace Go.Pg
theorem headR_stays : ∀ (l : List Ln) (m : Nat) (ti : Option Ln) (x : Option Nat × Option Ln × List Ln × List Ln), headR l (some m) ti = some x → x.1 = some m
  | [], m, ti, x, h => by cases h
  | s :: r, m, ti, x, h => by
    rw [headR] at h
    split at h
    · cases h; rfl
    split at h
    · obtain ⟨y, hy, rfl⟩ := map_len h
      exact headR_stays r m _ y hy
    split at h
    · rename_i hc; exact absurd hc.2 (by simp)
    split at h
    · cases h
    · obtain ⟨y, hy, rfl⟩ := map_len h
      exact headR_stays r m _ y hy
theorem headR_line : ∀ (l : List Ln) (told : Option Nat) (ti : Option Ln) (x : Option Nat × Option Ln × List Ln × List Ln), headR l told ti = some x → ∀ y ∈ x.2.2.1, (kd y).1 = 2 → x.1 = num (kd y).2
  | [], told, ti, x, h => by cases h
  | s :: r, told, ti, x, h => by
    rw [headR] at h
    split at h
    · cases h; intro y hy; cases hy
    split at h
    · rename_i hc
      obtain ⟨z, hz, rfl⟩ := map_len h
      intro y hy hk
      rcases List.mem_cons.1 hy with rfl | hy
      · rw [hk] at hc; exact absurd hc.1 (by decide)
      · exact headR_line r _ _ z hz y hy hk
    split at h
    · rename_i hc
      obtain ⟨z, hz, rfl⟩ := map_len h
      intro y hy hk
      have hnum : ∃ m, num (kd s).2 = some m := by
        have := (kd_2 hc.1).2
        unfold isNum at this
        exact Option.isSome_iff_exists.1 this
      obtain ⟨m, hm⟩ := hnum
      rcases List.mem_cons.1 hy with rfl | hy
      · rw [hm] at hz ⊢
        exact headR_stays r m _ z hz
      · exact headR_line r _ _ z hz y hy hk
    split at h
    · cases h
    · rename_i hk0
      obtain ⟨z, hz, rfl⟩ := map_len h
      intro y hy hk
      rcases List.mem_cons.1 hy with rfl | hy
      · rw [hk] at hk0; exact absurd hk0 (by decide)
      · exact headR_line r _ _ z hz y hy hk
theorem head_same {d : Doc} (h : Wf d) : d.header.map (headN d.pages.length) = d.header := by
  obtain ⟨told, ti, h1, h2, h3⟩ := h.head
  have hl := headR_line _ _ _ _ h1
  simp only at hl
  conv => rhs; rw [← List.map_id d.header]
  refine List.map_congr_left fun y hy => ?_
  unfold headN
  split
  · rename_i hk
    have h4 := hl y hy hk
    obtain ⟨h5, h6⟩ := kd_2 hk
    unfold agrees at h3
    unfold isNum at h6
    obtain ⟨m, hm⟩ := Option.isSome_iff_exists.1 h6
    rw [hm] at h4
    rw [h4] at h3
    have hmn : m = d.pages.length := by simpa using h3
    obtain ⟨-, h7⟩ := num_some hm
    rw [id, h5, h7, hmn]
  · rfl
theorem pages_up {d : Doc} : ((List.range d.pages.length).map (· + 1)).map (fun n => d.pages.getD (n - 1) []) = d.pages := by
  apply List.ext_getElem
  · simp
  · intro i h1 h2
    simp at h1
    simp [h1]
theorem pages_down {d : Doc} : (Ev.downN d.pages.length d.pages.length).map (fun n => d.pages.getD (n - 1) []) = d.pages.reverse := by
  unfold Ev.downN
  apply List.ext_getElem
  · simp
  · intro i h1 h2
    simp at h1
    have : d.pages.length - i - 1 < d.pages.length := by omega
    simp only [List.getElem_map, List.getElem_range, List.getElem_reverse]
    rw [List.getD_eq_getElem?_getD, List.getElem?_eq_getElem (by omega)]
    simp only [Option.getD_some]
    congr 1
    omega
theorem pick_up {d : Doc} (h : Wf d) : pickD d ((List.range d.pages.length).map (· + 1)) = d := by
  unfold pickD
  rw [pages_up, List.length_map, List.length_range, head_same h]
def turned (d : Doc) : Doc := ⟨d.title, d.header, d.prologue, d.pages.reverse, d.trailer⟩
theorem pick_down {d : Doc} (h : Wf d) : pickD d (Ev.downN d.pages.length d.pages.length) = turned d := by
  unfold pickD
  have : (Ev.downN d.pages.length d.pages.length).length = d.pages.length := by simp [Ev.downN]
  rw [pages_down, this, head_same h]; rfl
theorem turned_twice (d : Doc) : turned (turned d) = d := by
  unfold turned
  simp
theorem page_in : ∀ (ps : List (List Ln)) (k j : Nat), k < j → j ≤ k + ps.length → wPage ++ dec j ∈ pagesLines k ps
  | [], k, j, h1, h2 => by simp at h2; omega
  | p :: ps, k, j, h1, h2 => by
    rw [pagesLines, List.mem_cons, List.mem_append]
    by_cases h : j = k + 1
    · exact .inl (by rw [h])
    · exact .inr (.inr (page_in ps (k + 1) j (by omega) (by simp only [List.length_cons] at h2; omega)))
theorem pagesLines_mem1 {x : Ln} : ∀ (ps : List (List Ln)) (k : Nat), x ∈ pagesLines k ps → (∃ j, k < j ∧ j ≤ k + ps.length ∧ x = wPage ++ dec j) ∨ ∃ p ∈ ps, x ∈ p
  | [], k, h => by simp [pagesLines] at h
  | p :: ps, k, h => by
    rw [pagesLines, List.mem_cons, List.mem_append] at h
    rcases h with h | h | h
    · exact .inl ⟨k + 1, by omega, by simp only [List.length_cons]; omega, h⟩
    · exact .inr ⟨p, List.mem_cons_self .., h⟩
    · rcases pagesLines_mem1 ps (k + 1) h with ⟨j, hi, hj, e⟩ | ⟨q, hq, e⟩
      · exact .inl ⟨j, by omega, by simp only [List.length_cons]; omega, e⟩
      · exact .inr ⟨q, List.mem_cons_of_mem _ hq, e⟩
theorem page_line {p : List Ln} {x : Ln} (hx : x ∈ p) : ∀ (ps : List (List Ln)) (k : Nat), p ∈ ps → x ∈ pagesLines k ps
  | [], k, h => by cases h
  | q :: r, k, h => by
    rw [pagesLines, List.mem_cons, List.mem_append]
    rcases List.mem_cons.1 h with rfl | h
    · exact .inr (.inl hx)
    · exact .inr (.inr (page_line hx r (k + 1) h))
theorem turned_lines {d : Doc} {x : Ln} (h : x ∈ docLines (turned d)) : x ∈ docLines d := by
  have hp : ∀ x, x ∈ pagesLines 0 d.pages.reverse → x ∈ pagesLines 0 d.pages := by
    intro x hx
    rcases pagesLines_mem1 _ _ hx with ⟨j, h1, h2, rfl⟩ | ⟨p, hp, hx⟩
    · exact page_in _ _ _ h1 (by rw [List.length_reverse] at h2; exact h2)
    · exact page_line hx _ _ (List.mem_reverse.1 hp)
  unfold docLines at h ⊢
  simp only [turned, List.mem_cons, List.mem_append] at h ⊢
  rcases h with h | h | h | h | h | h
  · exact .inl h
  · exact .inr (.inl h)
  · exact .inr (.inr (.inl h))
  · exact .inr (.inr (.inr (.inl h)))
  · exact .inr (.inr (.inr (.inr (.inl (hp x h)))))
  · exact .inr (.inr (.inr (.inr (.inr h))))
theorem turned_wf {d : Doc} (h : Wf d) : Wf (turned d) := by
  obtain ⟨told, ti, h1, h2, h3⟩ := h.head
  exact { head := ⟨told, ti, h1, h2, by simp only [turned, List.length_reverse]; exact h3⟩, pro := h.pro, pgs := fun p hp => h.pgs p (List.mem_reverse.1 hp), few := by simp only [turned, List.length_reverse]; exact h.few, tr := h.tr, nl := fun x hx => h.nl x (turned_lines hx) }
def begs : Nat → Nat → Nat
  | _, 0 => 0
  | k, n + 1 => (wPage ++ dec (k + 1)).length + 1 + begs (k + 1) n
theorem pages_size : ∀ (ps : List (List Ln)) (k : Nat), (joinL (pagesLines k ps)).length = begs k ps.length + (ps.map fun p => (joinL p).length).sum
  | [], k => by simp [pagesLines, joinL, begs]
  | p :: ps, k => by
    have := pages_size ps (k + 1)
    rw [pagesLines, joinL, joinL_append]
    simp only [List.length_append, List.length_cons, List.length_nil, List.map_cons, List.sum_cons, begs]
    omega
theorem turned_size (d : Doc) : (textD (turned d)).length = (textD d).length := by
  unfold textD docLines
  simp only [turned, joinL, joinL_append, List.length_append, List.length_cons]
  have h1 := pages_size d.pages.reverse 0
  have h2 := pages_size d.pages 0
  rw [List.length_reverse, List.map_reverse, List.sum_reverse] at h1
  omega
theorem back_once {l : Ln} {d : Doc} (h : docR l = some d) : Ev.backOf l = [Ev.strOf (textD (turned d)), .int .i64 0] ∧ docR (textD (turned d)) = some (turned d) := by
  obtain ⟨hw, hl⟩ := doc_wf h
  have ht := text_doc h
  have hs := turned_size d
  rw [ht] at hs
  refine ⟨?_, wf_doc (turned_wf hw) (by omega)⟩
  rw [Ev.backOf_eq, h]
  simp only
  rw [pick_down hw, Ev.toldOf, if_neg (by omega)]
theorem back_twice {l : Ln} {d : Doc} (h : docR l = some d) : Ev.backOf (textD (turned d)) = [Ev.strOf l, .int .i64 0] := by
  have h1 := (back_once (back_once h).2).1
  rw [turned_twice, text_doc h] at h1
  exact h1
theorem pick_all {l : Ln} {d : Doc} (h : docR l = some d) : Ev.pickOf l ((List.range d.pages.length).map fun (i : Nat) => (i : Int) + 1) = [Ev.strOf l, .int .i64 0] := by
  obtain ⟨hw, hl⟩ := doc_wf h
  have hf := hw.few
  unfold Ev.pickOf
  rw [h]
  simp only
  have h1 : ((List.range d.pages.length).map fun (i : Nat) => (i : Int) + 1).any (Ev.offN d.pages.length) = false := by
    rw [List.any_eq_false]
    intro z hz
    obtain ⟨i, hi, rfl⟩ := List.mem_map.1 hz
    rw [List.mem_range] at hi
    unfold Ev.offN
    simp
    omega
  have h2 : decide (999 < ((List.range d.pages.length).map fun (i : Nat) => (i : Int) + 1).length) = false := by simp; omega
  have h3 : (((List.range d.pages.length).map fun (i : Nat) => (i : Int) + 1).map Int.toNat) = (List.range d.pages.length).map (· + 1) := by
    rw [List.map_map]
    refine List.map_congr_left fun i _ => ?_
    show ((i : Int) + 1).toNat = i + 1
    omega
  rw [h1, h2, h3, pick_up hw, Ev.toldOf, text_doc h]
  simp only [Bool.or_self, Bool.false_eq_true, if_false]
  rw [if_neg (by omega)]
end Go.Pg
