/-
  Lines of a text; lists of lines: copied, compared, searched.
-/
import Derived.Test.YtoinadgkjnbejaaDoorPgComment
import Derived.Test.YtoinadgkjnbejaaDoorPgPure4
set_option linter.unusedVariables false
set_option linter.unusedSimpArgs false
namespace Go.Ev
noncomputable section
open Go.Pg
theorem joinL_len : ∀ l : List Ln, l.length ≤ (joinL l).length
  | [] => Nat.le_refl _
  | x :: r => by have := joinL_len r; rw [joinL]; simp; omega
theorem lns_len (s : Ln) : (lns s).1.length + (lns s).2.length ≤ s.length := by
  have h := congrArg List.length (join_lns s)
  rw [List.length_append] at h
  have := joinL_len (lns s).1
  omega
theorem lns_end {l : Ln} : ∀ (h : l ≠ []), ([10] : Ln).isSuffixOf l = decide ((lns l).2 = []) ∧ (([10] : Ln).isSuffixOf l = true → (lns l).1 = Lib.split (l.take (l.length - 1)) [10]) := by
  intro h
  rcases List.eq_nil_or_concat l with rfl | ⟨t, c, e⟩
  · exact absurd rfl h
  rw [List.concat_eq_append] at e
  subst e
  rw [lns_snoc]
  have e1 : ([10] : Ln).isSuffixOf (t ++ [c]) = decide (c = 10) := by
    rw [Bool.eq_iff_iff, List.isSuffixOf_iff_suffix, decide_eq_true_eq]
    constructor
    · rintro ⟨u, hu⟩
      have := (List.append_inj' hu rfl).2
      simpa using this.symm
    · rintro rfl; exact ⟨t, rfl⟩
  rw [e1]
  unfold lnsF
  by_cases hc : c = 10
  · subst hc
    refine ⟨by simp, fun _ => ?_⟩
    rw [if_pos rfl]
    have : (t ++ [10]).take ((t ++ [10]).length - 1) = t := by simp
    rw [this, split_lns _ t (Nat.le_refl _)]
  · rw [if_neg hc, decide_eq_false hc]
    refine ⟨by simp, fun h => by cases h⟩
section
variable {E : Env} {f : FuncId} {s t : St}
theorem pSplit_run {l : Ln} (G : Gl s) (hl : l.length ≤ 1000000) : pSplit 1 9 [strOf l, strOf [10]] s = some (.slice (some ⟨s.next, 0, none⟩) (Lib.split l [10]).length (Lib.split l [10]).length, s.made ((Lib.split l [10]).map strOf) (tag 9 1) .ex) := by
  unfold pSplit strOf
  simp only
  rw [if_pos ⟨by show l.length < _; omega, by decide, G.max⟩]
theorem Mid.made {cs : List Value} {n es : Nat} (hn : n = cs.length) (ho : n < open_) : Mid (s.made cs es .ex) s.next (s.next + 1) 1 (.slice (some ⟨s.next, 0, none⟩) n n) cs := by
  subst hn
  refine ⟨?_, fun q m c e => by cases e; exact Nat.le_refl _⟩
  have := Sl.mk (s := s.made cs es .ex) (hi := s.next + 1) (size := 1) (b := s.next) (o := 0) (n := cs.length) (c := cs.length) (cells := cs) (es := es) (md := .ex) (by omega) (by rw [get_made, if_pos rfl]) (by omega) (.inl ⟨Nat.le_refl _, ho⟩)
  simpa using this
theorem lines_run (P : Prims E) (hf : Has E f Code.page_lines) (G : Gl s) {l : Ln} (hl : l.length ≤ 1000000) : Cv E f [strOf l] s fun r t => ∃ v, r = .tuple ⟨[v, .bool (decide ((lns l).2 = []))]⟩ ∧ Low s.next s t ∧ (∃ p n c, v = .slice p n c ∧ n ≤ c ∧ c < open_) ∧ ((lns l).2 = [] → Mid t s.next t.next 1 v ((lns l).1.map strOf)) := by
  refine Cv_of hf.code ?_
  have h0 : (Tr.ofList (.e : Fr) 0 [strOf l]).get 0 = some (strOf l) := rfl
  generalize (Tr.ofList (.e : Fr) 0 [strOf l]) = fr0 at h0
  unfold Code.page_lines
  refine W_seq (W_region (by simp only [simq, Int.reduceEq, Nat.reduceEqDiff]; rfl) ?_)
  by_cases h : l = []
  · have d1 : decide (l = []) = true := decide_eq_true h
    refine W_seq (W_seq (W_region (by simp only [simq, Int.reduceEq, Nat.reduceEqDiff, h0, d1]; rfl) ?_))
    refine W_then (by simp only [simq, Int.reduceEq, Nat.reduceEqDiff]) (W_seq (W_region (by simp only [simq, Int.reduceEq, Nat.reduceEqDiff]; rfl) (W_ret ⟨rfl, _, res_tmp (res_tmp res_nil), .slice none 0 0, ?_, Low.self s, ⟨none, 0, 0, rfl, Nat.le_refl _, by unfold open_; omega⟩, fun _ => ?_⟩)))
    · subst h; simp only [simq, Int.reduceEq, Nat.reduceEqDiff, tupled]; rfl
    · subst h; exact Mid.nil _ _ _ _
  · have d1 : decide (l = []) = false := decide_eq_false h
    refine W_seq (W_seq (W_region (by simp only [simq, Int.reduceEq, Nat.reduceEqDiff, h0, d1]; rfl) ?_))
    refine W_else (by simp only [simq, Int.reduceEq, Nat.reduceEqDiff]) (W_skip ?_)
    obtain ⟨e1, e2⟩ := lns_end h
    have hs := pCutSuffix_run l [10] s hl
    refine W_seq (W_opsM (Wo_all (by simp only [simq, Int.reduceEq, Nat.reduceEqDiff, h0, pc_some P.cutS, hs, nth0, nth1]; rfl) ?_))
    show W E _ _ _ _
    have hl2 : (if ([10] : Ln).isSuffixOf l = true then l.take (l.length - ([10] : Ln).length) else l).length ≤ 1000000 := by
      split
      · simp; omega
      · exact hl
    have hp := pSplit_run G hl2
    refine W_seq (W_opsM (Wo_all (by simp only [simq, Int.reduceEq, Nat.reduceEqDiff, pc_some P.split, hp]; rfl) ?_))
    refine W_ret ⟨rfl, _, res_tmp (res_tmp res_nil), .slice (some ⟨s.next, 0, none⟩) (Lib.split (if ([10] : Ln).isSuffixOf l = true then l.take (l.length - ([10] : Ln).length) else l) [10]).length (Lib.split (if ([10] : Ln).isSuffixOf l = true then l.take (l.length - ([10] : Ln).length) else l) [10]).length, ?_, (Low.self s).made _ _ _, ⟨_, _, _, rfl, Nat.le_refl _, ?_⟩, fun hn => ?_⟩
    · simp only [simq, Int.reduceEq, Nat.reduceEqDiff, tupled, e1]
    · generalize (if ([10] : Ln).isSuffixOf l = true then l.take (l.length - ([10] : Ln).length) else l) = l' at hl2
      have h1 := split_lns _ l' (Nat.le_refl _)
      have h2 := lns_len l'
      rw [h1, List.length_append]
      unfold open_
      simp
      omega
    · have ht : ([10] : Ln).isSuffixOf l = true := by rw [e1]; exact decide_eq_true hn
      rw [if_pos ht]
      have e3 := e2 ht
      rw [e3]
      have : (lns l).1.length ≤ l.length := by have := lns_len l; omega
      rw [e3] at this
      exact (Mid.made (by simp) (by unfold open_; show (Lib.split (l.take (l.length - 1)) [10]).length < _; omega)).wide (by rw [next_made]; omega)
theorem Index_run (hf : Has E f Code.slices_Index_string_string) {hi : Nat} {v : Value} {l : List Ln} (hv : Texts s hi v l) (hl : l.length ≤ 1000000) (x : Ln) : Cv E f [v, strOf x] s fun r t => t = s ∧ r = .int .i64 (match ixOf x l with | some n => (n : Int) | none => -1) := by
  obtain ⟨p, m, c, rfl, hm⟩ := hv.parts
  rw [List.length_map, Nat.mul_one] at hm
  subst hm
  refine Cv_of hf.code ?_
  have h0 : (Tr.ofList (.e : Fr) 0 [.slice p l.length c, strOf x]).get 0 = some (.slice p l.length c) := rfl
  have h1 : (Tr.ofList (.e : Fr) 0 [.slice p l.length c, strOf x]).get 1 = some (strOf x) := rfl
  generalize (Tr.ofList (.e : Fr) 0 [.slice p l.length c, strOf x]) = fr0 at h0 h1
  unfold Code.slices_Index_string_string
  refine W_seq (W_region (by simp only [simq, Int.reduceEq, Nat.reduceEqDiff]; rfl) ?_)
  refine W_seq (W_seq (W_region (by simp only [simq, Int.reduceEq, Nat.reduceEqDiff, h0]; rfl) ?_))
  refine W_block ?_
  unfold Code.slices_Index_string_string_l0
  refine W_for (n := l.length) (fun i fr t => t = s ∧ fr.get 0 = some (.slice p l.length c) ∧ fr.get 1 = some (strOf x) ∧ ixOf x l = (ixOf x (l.drop i)).map (· + i)) (by omega) (by decide) ?_ ?_ ?_ 0 (Nat.zero_le _) ⟨rfl, by simp only [simq, Int.reduceEq, Nat.reduceEqDiff, h0], by simp only [simq, Int.reduceEq, Nat.reduceEqDiff, h1], by simp⟩ (by simp only [simq, Int.reduceEq, Nat.reduceEqDiff]; rfl) (by simp only [simq, Int.reduceEq, Nat.reduceEqDiff]; rfl)
  · rintro i fr t x v hx ⟨e0, e1, e2, e3⟩
    refine ⟨e0, ?_, ?_, e3⟩ <;> rcases hx with rfl | rfl | rfl <;> simp only [simq, Int.reduceEq, Nat.reduceEqDiff, e1, e2]
  · rintro i fr t hlt ⟨ht, e0, e1, e2⟩ h8 h7
    rw [ht]; clear ht
    obtain ⟨a, rfl, hcell⟩ := hv.cell (i := i) (by rw [List.length_map]; exact hlt)
    rw [List.getElem?_map, List.getElem?_eq_getElem hlt, Option.map_some] at hcell
    rw [List.drop_eq_getElem_cons hlt, ixOf] at e2
    have hb : Nat.blt i l.length = true := by rw [Nat.blt_eq]; exact hlt
    refine W_seq (W_region (by simp only [simq, Int.reduceEq, Nat.reduceEqDiff, h8]; rfl) ?_)
    cases d : decide (x = l[i]) with
    | true =>
      have e : l[i] = x := (of_decide_eq_true d).symm
      rw [if_pos e] at e2
      refine W_seq (W_region (by simp only [simq, Int.reduceEq, Nat.reduceEqDiff, e0, e1, hb, hcell, d]; rfl) (W_then (by simp only [simq, Int.reduceEq, Nat.reduceEqDiff]) (W_seq (W_region (by simp only [simq, Int.reduceEq, Nat.reduceEqDiff]; rfl) (W_ret ⟨rfl, _, res_tmp res_nil, rfl, ?_⟩)))))
      simp only [simq, Int.reduceEq, Nat.reduceEqDiff, tupled]
      rw [e2]; simp
    | false =>
      have e : ¬ l[i] = x := fun h => (of_decide_eq_false d) h.symm
      rw [if_neg e] at e2
      refine W_seq (W_region (by simp only [simq, Int.reduceEq, Nat.reduceEqDiff, e0, e1, hb, hcell, d]; rfl) (W_else (by simp only [simq, Int.reduceEq, Nat.reduceEqDiff]) (W_skip ⟨⟨rfl, by simp only [simq, Int.reduceEq, Nat.reduceEqDiff, e0], by simp only [simq, Int.reduceEq, Nat.reduceEqDiff, e1], ?_⟩, by simp only [simq, Int.reduceEq, Nat.reduceEqDiff, h8], by simp only [simq, Int.reduceEq, Nat.reduceEqDiff, h7]⟩)))
      rw [e2, Option.map_map]
      congr 1
      funext k
      simp; omega
  · rintro fr t ⟨ht, e0, e1, e2⟩
    rw [ht]; clear ht
    show W E _ _ _ _
    rw [List.drop_length, ixOf] at e2
    refine W_seq (W_region (by simp only [simq, Int.reduceEq, Nat.reduceEqDiff]; rfl) (W_ret ⟨rfl, _, res_tmp res_nil, rfl, ?_⟩))
    simp only [simq, Int.reduceEq, Nat.reduceEqDiff, tupled]
    rw [e2]; rfl
theorem IndexFuncS_run (hf : Has E f Code.slices_IndexFunc_string_string) {hi : Nat} {v : Value} {l : List Ln} (hv : Texts s hi v l) (hhi : hi ≤ s.next) (hl : l.length ≤ 1000000) {g : FuncId} {P : Ln → Bool} (hp : E.prim g = none) (hg : ∀ x ∈ l, ∀ t, Low s.next s t → Cv E g [strOf x] t fun v t' => v = .bool (P x) ∧ Low t.next t t') :
    Cv E f [v, .func (.func g) ⟨[]⟩ ⟨[]⟩] s fun r t => Low s.next s t ∧ ∃ k : Int, r = .int .i64 k ∧ (0 ≤ k ↔ l.any P = true) := by
  obtain ⟨p, m, c, rfl, hm⟩ := hv.parts
  rw [List.length_map, Nat.mul_one] at hm
  subst hm
  refine Cv_of hf.code ?_
  have h0 : (Tr.ofList (.e : Fr) 0 [.slice p l.length c, .func (.func g) ⟨[]⟩ ⟨[]⟩]).get 0 = some (.slice p l.length c) := rfl
  have h1 : (Tr.ofList (.e : Fr) 0 [.slice p l.length c, .func (.func g) ⟨[]⟩ ⟨[]⟩]).get 1 = some (.func (.func g) ⟨[]⟩ ⟨[]⟩) := rfl
  generalize (Tr.ofList (.e : Fr) 0 [.slice p l.length c, .func (.func g) ⟨[]⟩ ⟨[]⟩]) = fr0 at h0 h1
  unfold Code.slices_IndexFunc_string_string
  refine W_seq (W_region (by simp only [simq, Int.reduceEq, Nat.reduceEqDiff]; rfl) ?_)
  refine W_seq (W_seq (W_region (by simp only [simq, Int.reduceEq, Nat.reduceEqDiff, h0]; rfl) ?_))
  refine W_block ?_
  unfold Code.slices_IndexFunc_string_string_l0
  refine W_for (n := l.length) (fun i fr t => Low s.next s t ∧ fr.get 0 = some (.slice p l.length c) ∧ fr.get 1 = some (.func (.func g) ⟨[]⟩ ⟨[]⟩) ∧ (l.take i).any P = false) (by omega) (by decide) ?_ ?_ ?_ 0 (Nat.zero_le _) ⟨Low.self s, by simp only [simq, Int.reduceEq, Nat.reduceEqDiff, h0], by simp only [simq, Int.reduceEq, Nat.reduceEqDiff, h1], rfl⟩ (by simp only [simq, Int.reduceEq, Nat.reduceEqDiff]; rfl) (by simp only [simq, Int.reduceEq, Nat.reduceEqDiff]; rfl)
  · rintro i fr t x v hx ⟨e0, e1, e2, e3⟩
    refine ⟨e0, ?_, ?_, e3⟩ <;> rcases hx with rfl | rfl | rfl <;> simp only [simq, Int.reduceEq, Nat.reduceEqDiff, e1, e2]
  · rintro i fr t hlt ⟨Lt, e0, e1, e2⟩ h8 h7
    have hv' := hv.low Lt hhi
    obtain ⟨a, rfl, hcell⟩ := hv'.cell (i := i) (by rw [List.length_map]; exact hlt)
    rw [List.getElem?_map, List.getElem?_eq_getElem hlt, Option.map_some] at hcell
    have hb : Nat.blt i l.length = true := by rw [Nat.blt_eq]; exact hlt
    refine W_seq (W_region (by simp only [simq, Int.reduceEq, Nat.reduceEqDiff, h8]; rfl) ?_)
    refine W_seq (W_opsM (Wo_run (by simp only [simq, Int.reduceEq, Nat.reduceEqDiff, e0, e1, hb, hcell]; rfl) (Wo_callV hp (by simp only [simq, Int.reduceEq, Nat.reduceEqDiff]; rfl) (by simp only [simq, Int.reduceEq, Nat.reduceEqDiff]; rfl) ((hg l[i] (List.getElem_mem hlt) t Lt).mono ?_))))
    rintro _ t2 ⟨rfl, l2⟩
    have L2 : Low s.next s t2 := Lt.trans (l2.weak Lt.2.1)
    refine Wo_nil ?_
    show W E _ _ _ _
    have htake : (l.take (i + 1)).any P = P l[i] := by
      rw [List.take_succ_eq_append_getElem hlt, List.any_append, e2]; simp
    refine W_ifb (q := P l[i]) (by simp only [simq, Int.reduceEq, Nat.reduceEqDiff]) (fun hq => ?_) (fun hq => W_skip ?_)
    · refine W_seq (W_region (by simp only [simq, Int.reduceEq, Nat.reduceEqDiff]; rfl) (W_ret ⟨rfl, _, res_tmp res_nil, L2, (i : Int), by simp only [simq, Int.reduceEq, Nat.reduceEqDiff, tupled], ?_⟩))
      constructor
      · intro _
        rw [List.any_eq_true]
        exact ⟨l[i], List.getElem_mem hlt, hq⟩
      · intro _; omega
    · exact ⟨⟨L2, by simp only [simq, Int.reduceEq, Nat.reduceEqDiff, e0], by simp only [simq, Int.reduceEq, Nat.reduceEqDiff, e1], by rw [htake, hq]⟩, by simp only [simq, Int.reduceEq, Nat.reduceEqDiff, h8], by simp only [simq, Int.reduceEq, Nat.reduceEqDiff, h7]⟩
  · rintro fr t ⟨Lt, e0, e1, e2⟩
    rw [List.take_length] at e2
    show W E _ _ _ _
    refine W_seq (W_region (by simp only [simq, Int.reduceEq, Nat.reduceEqDiff]; rfl) (W_ret ⟨rfl, _, res_tmp res_nil, Lt, -1, by simp only [simq, Int.reduceEq, Nat.reduceEqDiff, tupled], ?_⟩))
    rw [e2]; simp
theorem ContainsFuncS_run (hC : Codes E) (hf : Has E f Code.slices_ContainsFunc_string_string) {hi : Nat} {v : Value} {l : List Ln} (hv : Texts s hi v l) (hhi : hi ≤ s.next) (hl : l.length ≤ 1000000) {g : FuncId} {P : Ln → Bool} (hp : E.prim g = none) (hg : ∀ x ∈ l, ∀ t, Low s.next s t → Cv E g [strOf x] t fun v t' => v = .bool (P x) ∧ Low t.next t t') :
    Cv E f [v, .func (.func g) ⟨[]⟩ ⟨[]⟩] s fun r t => Low s.next s t ∧ r = .bool (l.any P) := by
  refine Cv_of hf.code ?_
  have h0 : (Tr.ofList (.e : Fr) 0 [v, .func (.func g) ⟨[]⟩ ⟨[]⟩]).get 0 = some (v) := rfl
  have h1 : (Tr.ofList (.e : Fr) 0 [v, .func (.func g) ⟨[]⟩ ⟨[]⟩]).get 1 = some (.func (.func g) ⟨[]⟩ ⟨[]⟩) := rfl
  generalize (Tr.ofList (.e : Fr) 0 [v, .func (.func g) ⟨[]⟩ ⟨[]⟩]) = fr0 at h0 h1
  unfold Code.slices_ContainsFunc_string_string
  refine W_seq (W_region (by simp only [simq, Int.reduceEq, Nat.reduceEqDiff]; rfl) ?_)
  first | refine W_seq (W_opsM (Wo_run (by simp only [simq, Int.reduceEq, Nat.reduceEqDiff, h0, h1]; rfl) (Wo_call hC.slices_IndexFunc_string_string.prim (by simp only [simq, Int.reduceEq, Nat.reduceEqDiff, h0, h1]; try rfl) ((IndexFuncS_run hC.slices_IndexFunc_string_string hv hhi hl hp hg).mono ?_)))) | refine W_seq (W_ops (Wo_run (by simp only [simq, Int.reduceEq, Nat.reduceEqDiff, h0, h1]; rfl) (Wo_call hC.slices_IndexFunc_string_string.prim (by simp only [simq, Int.reduceEq, Nat.reduceEqDiff, h0, h1]; try rfl) ((IndexFuncS_run hC.slices_IndexFunc_string_string hv hhi hl hp hg).mono ?_))))
  rintro _ t ⟨L, k, rfl, hk⟩
  refine Wo_all (by simp only [simq, Int.reduceEq, Nat.reduceEqDiff]; rfl) (W_ret ⟨rfl, _, res_tmp res_nil, L, ?_⟩)
  simp only [simq, Int.reduceEq, Nat.reduceEqDiff, tupled]
  congr 1
  cases h : l.any P with
  | true => rw [decide_eq_true_eq]; exact hk.2 h
  | false => rw [decide_eq_false_iff_not]; intro h2; rw [hk.1 h2] at h; cases h
theorem CloneS_run (hf : Has E f Code.slices_Clone_string_string) {hi : Nat} {v : Value} {m : List Ln} (hhi : hi ≤ s.next) (hv : Texts s hi v m) (hm : m.length ≤ 1000000) : Cv E f [v] s fun r s' => Low s.next s s' ∧ Gr s' s.next 1 r (m.map strOf) := by
  obtain ⟨p, n, c, rfl, hn⟩ := hv.parts
  rw [List.length_map, Nat.mul_one] at hn
  subst hn
  refine Cv_of hf.code ?_
  have h0 : (Tr.ofList (.e : Fr) 0 [.slice p m.length c]).get 0 = some (.slice p m.length c) := rfl
  generalize (Tr.ofList (.e : Fr) 0 [.slice p m.length c]) = fr0 at h0
  unfold Code.slices_Clone_string_string
  refine W_seq (W_region (by simp only [simq, Int.reduceEq, Nat.reduceEqDiff]; rfl) ?_)
  cases p with
  | none =>
    have hm0 : m = [] := by
      cases hv' : m with
      | nil => rfl
      | cons y m' => rw [hv'] at hv; cases hv
    subst hm0
    have e1 : isNil .sl (.slice none ([] : List Ln).length c) = some true := rfl
    refine W_seq (W_seq (W_region (by simp only [simq, Int.reduceEq, Nat.reduceEqDiff, h0, e1]; rfl) ?_))
    refine W_then (by simp only [simq, Int.reduceEq, Nat.reduceEqDiff]) ?_
    refine W_seq (W_region (by simp only [simq, Int.reduceEq, Nat.reduceEqDiff]; rfl) ?_)
    refine W_ret ⟨rfl, _, res_tmp res_nil, Low.self s, ?_⟩
    simp only [simq, Int.reduceEq, Nat.reduceEqDiff, tupled]
    exact .nil
  | some q =>
    have e1 : isNil .sl (.slice (some q) m.length c) = some false := rfl
    refine W_seq (W_seq (W_region (by simp only [simq, Int.reduceEq, Nat.reduceEqDiff, h0, e1]; rfl) ?_))
    refine W_else (by simp only [simq, Int.reduceEq, Nat.reduceEqDiff]) (W_skip ?_)
    refine W_seq (W_ops ?_)
    refine Wo_buildSlice (size := 1) (lo := s.next) (cs := []) rfl rfl (Nat.le_add_right _ _) (by rw [next_skip]; omega) (by decide) ?_
    rintro s2 ⟨-, g1⟩ g2 hs2
    have l2 : Low s.next s s2 := ((Low.self s).skip 4).trans g2
    refine Wo_run (l := [_]) (by simp only [simq, Int.reduceEq, Nat.reduceEqDiff, h0]; rfl) ?_
    refine Wo_append (lo := s.next) (by simp only [simq, Int.reduceEq, Nat.reduceEqDiff]) (by simp only [simq, Int.reduceEq, Nat.reduceEqDiff]) (g1.weak (Nat.le_add_right _ _)) l2.le (Sl.low hv l2 hhi).feed (by decide) (by simp [room]; omega) ?_
    rintro y s3 g3 g4 -
    refine Wo_all (by simp only [simq, Int.reduceEq, Nat.reduceEqDiff]; rfl) (W_ret ⟨rfl, _, res_tmp res_nil, l2.trans g4, ?_⟩)
    simp only [simq, Int.reduceEq, Nat.reduceEqDiff, tupled]
    simpa using g3
end
end
end Go.Ev
