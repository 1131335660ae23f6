/-
  The names that lines of a kind tell, each once: in plain lists; what asks for them.
-/
import Derived.Test.YtoinadgkjnbejaaDoorPgTop
set_option linter.unusedVariables false
set_option linter.unusedSimpArgs false
namespace Go.Pg
def addN (k : Nat) (out : List Ln) (s : Ln) : List Ln := if (kd s).1 = k ∧ (kd s).2 ∉ out then out ++ [(kd s).2] else out
def nmL (k : Nat) (xs : List Ln) : List Ln := xs.foldl (addN k) []
def allOf (d : Doc) : List Ln := d.prologue ++ d.pages.flatten
theorem nmL_snoc (k : Nat) (xs : List Ln) (s : Ln) : nmL k (xs ++ [s]) = addN k (nmL k xs) s := by
  unfold nmL
  rw [List.foldl_append]; rfl
theorem addN_len (k : Nat) (out : List Ln) (s : Ln) : (addN k out s).length ≤ out.length + 1 := by
  unfold addN
  split <;> simp
theorem foldN_len (k : Nat) : ∀ (xs out : List Ln), (xs.foldl (addN k) out).length ≤ out.length + xs.length
  | [], out => by simp
  | x :: r, out => by
    have h1 := foldN_len k r (addN k out x)
    have h2 := addN_len k out x
    rw [List.foldl_cons, List.length_cons]
    omega
theorem nmL_len (k : Nat) (xs : List Ln) : (nmL k xs).length ≤ xs.length := by
  have := foldN_len k xs []
  unfold nmL
  simpa using this
theorem flat_len : ∀ (ps : List (List Ln)) (k : Nat), ps.flatten.length + ps.length ≤ (pagesLines k ps).length
  | [], k => by simp
  | p :: ps, k => by
    have := flat_len ps (k + 1)
    rw [pagesLines, List.flatten_cons]
    simp only [List.length_append, List.length_cons]
    omega
theorem flat_mem : ∀ (ps : List (List Ln)) (k : Nat) (x : Ln), x ∈ ps.flatten → x ∈ pagesLines k ps
  | [], k, x, h => by simp at h
  | p :: ps, k, x, h => by
    rw [List.flatten_cons, List.mem_append] at h
    rw [pagesLines, List.mem_cons, List.mem_append]
    rcases h with h | h
    · exact .inr (.inl h)
    · exact .inr (.inr (flat_mem ps (k + 1) x h))
theorem ixOf_mem {x : Ln} : ∀ l : List Ln, (ixOf x l).isSome = decide (x ∈ l)
  | [] => by simp [ixOf]
  | y :: r => by
    rw [ixOf]
    by_cases h : y = x
    · rw [if_pos h]; simp [h]
    · rw [if_neg h, Option.isSome_map, ixOf_mem r, decide_eq_decide, List.mem_cons]
      constructor
      · exact .inr
      · rintro (e | e)
        · exact absurd e.symm h
        · exact e
end Go.Pg
namespace Go.Ev
noncomputable section
open Go.Pg
structure Few (d : Doc) : Prop where
  n : (allOf d).length ≤ 100000
  x : ∀ x ∈ allOf d, x.length ≤ 100000
  g : d.pages.length ≤ 100000
theorem doc_few {l : Ln} {d : Doc} (h : docR l = some d) (hl : l.length ≤ 100000) : Few d := by
  unfold docR at h
  split at h
  · cases h
  · have e := parse_lines h
    have h1 := lns_len l
    have hs := lns_sh l
    rw [e] at hs
    have h2 := congrArg List.length e
    unfold docLines at h2
    simp only [List.length_cons, List.length_append, List.length_nil] at h2
    have g1 := flat_len d.pages 0
    refine ⟨by unfold allOf; rw [List.length_append]; omega, fun x hx => ?_, by omega⟩
    have : x ∈ docLines d := by
      unfold allOf at hx
      rw [List.mem_append] at hx
      unfold docLines
      simp only [List.mem_cons, List.mem_append]
      rcases hx with hx | hx
      · exact .inr (.inr (.inr (.inl hx)))
      · exact .inr (.inr (.inr (.inr (.inl (flat_mem d.pages 0 x hx)))))
    exact Nat.le_trans (hs x this) hl
theorem docOf_few {l : Ln} (hl : l.length ≤ 100000) : Few (docOf l) := by
  cases h : docR l with
  | none => rw [(doc_none h).2]; exact ⟨by decide, (by intro x hx; simp [allOf, noDoc] at hx), by decide⟩
  | some d => rw [(doc_some h).2]; exact doc_few h hl
theorem kd_word (s : Ln) {k : Nat} (hk : k ≤ 9) : decide (wordOf (kd s).1 = wordOf k) = decide ((kd s).1 = k) := word_dec (kd_le s) k hk
section
variable {E : Env} {f : FuncId} {s t u : St}
theorem Contains_run (hC : Codes E) (hf : Has E f Code.slices_Contains_string_string) {hi : Nat} {v : Value} {l : List Ln} (hv : Texts s hi v l) (hl : l.length ≤ 1000000) (x : Ln) : Cv E f [v, strOf x] s fun r t => t = s ∧ r = .bool (decide (x ∈ l)) := by
  refine Cv_of hf.code ?_
  have h0 : (Tr.ofList (.e : Fr) 0 [v, strOf x]).get 0 = some (v) := rfl
  have h1 : (Tr.ofList (.e : Fr) 0 [v, strOf x]).get 1 = some (strOf x) := rfl
  generalize (Tr.ofList (.e : Fr) 0 [v, strOf x]) = fr0 at h0 h1
  unfold Code.slices_Contains_string_string
  refine W_seq (W_region (by simp only [simq, Int.reduceEq, Nat.reduceEqDiff]; rfl) ?_)
  refine W_seq (W_opsM (Wo_run (by simp only [simq, Int.reduceEq, Nat.reduceEqDiff, h0, h1]; rfl) (Wo_call hC.slices_Index_string_string.prim (args := [v, strOf x]) (by simp only [simq, Int.reduceEq, Nat.reduceEqDiff]; try rfl) ((Index_run hC.slices_Index_string_string (s := s) hv hl x).mono ?_))))
  rintro r _ ⟨rfl, hr⟩
  have hm := ixOf_mem (x := x) l
  cases hix : ixOf x l with
  | none =>
    rw [hix] at hr hm
    subst hr
    have d1 : decide ((0 : Int) ≤ -1) = false := by decide
    refine Wo_all (by simp only [simq, Int.reduceEq, Nat.reduceEqDiff, d1]; rfl) ?_
    show W E _ _ _ _
    refine W_ret ⟨rfl, _, res_tmp res_nil, rfl, ?_⟩
    simp only [simq, Int.reduceEq, Nat.reduceEqDiff, tupled, ← hm]; rfl
  | some n =>
    rw [hix] at hr hm
    subst hr
    have d1 : decide ((0 : Int) ≤ ((n : Nat) : Int)) = true := by simp
    refine Wo_all (by simp only [simq, Int.reduceEq, Nat.reduceEqDiff, d1]; rfl) ?_
    show W E _ _ _ _
    refine W_ret ⟨rfl, _, res_tmp res_nil, rfl, ?_⟩
    simp only [simq, Int.reduceEq, Nat.reduceEqDiff, tupled, ← hm]; rfl
set_option maxHeartbeats 2000000 in
theorem has_run (hf : Has E f Code.tithingref14_has) {hi : Nat} {v : Value} {l : List Ln} (hv : Texts s hi v l) (hl : l.length ≤ 1000000) (x : Ln) : Cv E f [v, strOf x] s fun r t => t = s ∧ r = .bool (decide (x ∈ l)) := by
  obtain ⟨p, m, c, rfl, hm⟩ := hv.parts
  rw [List.length_map, Nat.mul_one] at hm
  subst hm
  refine Cv_of hf.code ?_
  have h0 : (Tr.ofList (.e : Fr) 0 [.slice p l.length c, strOf x]).get 0 = some (.slice p l.length c) := rfl
  have h1 : (Tr.ofList (.e : Fr) 0 [.slice p l.length c, strOf x]).get 1 = some (strOf x) := rfl
  generalize (Tr.ofList (.e : Fr) 0 [.slice p l.length c, strOf x]) = fr0 at h0 h1
  unfold Code.tithingref14_has
  refine W_seq (W_region (by simp only [simq, Int.reduceEq, Nat.reduceEqDiff]; rfl) ?_)
  refine W_seq (W_seq (W_region (by simp only [simq, Int.reduceEq, Nat.reduceEqDiff]; rfl) (W_block ?_)))
  refine W_inv (fun k fr t => ∃ i, k = l.length - i ∧ i ≤ l.length ∧ t = s ∧ fr.get 0 = some (.slice p l.length c) ∧ fr.get 1 = some (strOf x) ∧ fr.get 5 = some (.int .i64 (i : Nat)) ∧ x ∉ l.take i) ?_ l.length _ s ⟨0, rfl, Nat.zero_le _, rfl, by simp only [simq, Int.reduceEq, Nat.reduceEqDiff, h0], by simp only [simq, Int.reduceEq, Nat.reduceEqDiff, h1], by simp only [simq, Int.reduceEq, Nat.reduceEqDiff]; rfl, by simp⟩
  rintro k fr _ ⟨i, rfl, hi', rfl, k0, k1, k5, hno⟩
  unfold Code.tithingref14_has_l0
  by_cases hlt : i < l.length
  · have d0 : decide (((i : Nat) : Int) < ((l.length : Nat) : Int)) = true := by simp; omega
    have e1 : wr .i64 ((i : Int) + 1) = ((i + 1 : Nat) : Int) := by rw [wr_i64 (by omega) (by omega)]; omega
    refine W_seq (W_seq (W_region (by simp only [simq, Int.reduceEq, Nat.reduceEqDiff, k0, k5, Int.ofNat_eq_natCast, d0]; rfl) (W_then (by simp only [simq, Int.reduceEq, Nat.reduceEqDiff]) (W_skip ?_))))
    obtain ⟨a, rfl, hca⟩ := Sl.cell hv (i := i) (by rw [List.length_map]; omega)
    rw [List.getElem?_map, List.getElem?_eq_getElem hlt, Option.map_some] at hca
    have t1 : l.take (i + 1) = l.take i ++ [l[i]] := List.take_succ_eq_append_getElem hlt
    have hb1 : Nat.blt i l.length = true := by rw [Nat.blt_eq]; exact hlt
    cases d2 : decide (l[i] = x) with
    | true =>
      refine W_seq (W_block (W_seq (W_region (by simp only [simq, Int.reduceEq, Nat.reduceEqDiff, k0, k1, k5, hb1, hca, d2]; rfl) (W_then (by simp only [simq, Int.reduceEq, Nat.reduceEqDiff]) ?_))))
      refine W_seq (W_region (by simp only [simq, Int.reduceEq, Nat.reduceEqDiff]; rfl) (W_ret ⟨rfl, _, res_tmp res_nil, rfl, ?_⟩))
      have d3 : decide (x ∈ l) = true := decide_eq_true ((of_decide_eq_true d2) ▸ List.getElem_mem hlt)
      simp only [simq, Int.reduceEq, Nat.reduceEqDiff, tupled, d3]; try rfl
    | false =>
      refine W_seq (W_block (W_seq (W_region (by simp only [simq, Int.reduceEq, Nat.reduceEqDiff, k0, k1, k5, hb1, hca, d2]; rfl) (W_else (by simp only [simq, Int.reduceEq, Nat.reduceEqDiff]) (W_skip ?_)))))
      show W E _ _ _ _
      refine W_region (by simp only [simq, Int.reduceEq, Nat.reduceEqDiff, k5, e1]; rfl) ⟨l.length - (i + 1), by omega, i + 1, rfl, by omega, rfl, by simp only [simq, Int.reduceEq, Nat.reduceEqDiff, k0], by simp only [simq, Int.reduceEq, Nat.reduceEqDiff, k1], by simp only [simq, Int.reduceEq, Nat.reduceEqDiff], ?_⟩
      rw [t1, List.mem_append, List.mem_singleton]
      rintro (h | h)
      · exact hno h
      · exact (of_decide_eq_false d2) h.symm
  · have e : i = l.length := by omega
    subst e
    have d0 : decide (((l.length : Nat) : Int) < ((l.length : Nat) : Int)) = false := by simp
    refine W_seq (W_seq (W_region (by simp only [simq, Int.reduceEq, Nat.reduceEqDiff, k0, k5, Int.ofNat_eq_natCast, d0]; rfl) (W_else (by simp only [simq, Int.reduceEq, Nat.reduceEqDiff]) (W_exit ?_))))
    show W E _ _ _ _
    rw [List.take_length] at hno
    have d3 : decide (x ∈ l) = false := decide_eq_false hno
    refine W_seq (W_region (by simp only [simq, Int.reduceEq, Nat.reduceEqDiff]; rfl) (W_ret ⟨rfl, _, res_tmp res_nil, rfl, ?_⟩))
    simp only [simq, Int.reduceEq, Nat.reduceEqDiff, tupled, d3]; try rfl
def NamesPost (s : St) (k : Nat) (l : Ln) (r : Value) (t : St) : Prop := ∃ v, r = .tuple ⟨[v, .int .i64 (errOf l)]⟩ ∧ Low s.next s t ∧ Texts t t.next v (nmL k (allOf (docOf l)))
end
end
end Go.Ev
