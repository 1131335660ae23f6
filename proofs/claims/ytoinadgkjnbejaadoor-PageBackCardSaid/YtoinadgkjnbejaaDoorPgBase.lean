/-
  The library's single steps; names and numbers as the program asks for them.
-/
import Derived.Test.YtoinadgkjnbejaaDoorPgSmall2
set_option linter.unusedVariables false
set_option linter.unusedSimpArgs false
namespace Go.Ev
noncomputable section
open Go.Pg
structure Prims (E : Env) : Prop where
  itoa : E.prim 44 = some (pItoa 0)
  atoi : ∃ T, E.prim 73 = some (pAtoi 2 3 T)
  split : E.prim 58 = some (pSplit 1 9)
  cutP : E.prim 59 = some pCutPrefix
  cutS : E.prim 57 = some pCutSuffix
  hasP : E.prim 62 = some pHasPrefix
  noEsc : E.prim 87 = some pSame
structure Gl (s : St) : Prop where
  tab : At s 0 powRow
  max : intRow s 1
  syn : errRow s 2
  rng : errRow s 3
  le : 8 ≤ s.next
section
variable {E : Env} {f : FuncId} {s t : St} {lo a : Nat}
theorem Gl.low (h : Gl s) (k : Low lo s t) (hl : 8 ≤ lo) : Gl t :=
  let ⟨m, hm⟩ := h.max; let ⟨t1, p1, h1⟩ := h.syn; let ⟨t2, p2, h2⟩ := h.rng
  ⟨h.tab.low k (by omega), ⟨m, hm.low k (by omega)⟩, ⟨t1, p1, h1.low k (by omega)⟩, ⟨t2, p2, h2.low k (by omega)⟩, Nat.le_trans hl k.le⟩
theorem Gl.next (h : Gl s) (k : Low s.next s t) : Gl t := h.low k h.le
theorem Gl.but (h : Gl s) (k : But a s t) (ha : 8 ≤ a) : Gl t :=
  have l := h.le
  let ⟨m, hm⟩ := h.max; let ⟨t1, p1, h1⟩ := h.syn; let ⟨t2, p2, h2⟩ := h.rng
  ⟨h.tab.but k (by omega) (by omega), ⟨m, hm.but k (by omega) (by omega)⟩, ⟨t1, p1, h1.but k (by omega) (by omega)⟩, ⟨t2, p2, h2.but k (by omega) (by omega)⟩, Nat.le_trans l k.1⟩
theorem Gl.skip (h : Gl s) (n : Nat) : Gl (s.skip n) := h.next ((Low.self s).skip n)
theorem pAtoi_ok {T : Nat} {l : Ln} (G : Gl s) (hl : l.length ≤ 1000000) {v : Int} (h : Lib.atoiAll l = .ok v) : pAtoi 2 3 T [strOf l] s = some (.tuple ⟨[.int .i64 v, .nilIface]⟩, s) := by
  unfold pAtoi strOf
  simp only
  rw [if_pos ⟨by show l.length ≤ _; omega, G.syn, G.rng⟩]
  simp only [h]
theorem pAtoi_bad {T : Nat} {l : Ln} (G : Gl s) (hl : l.length ≤ 1000000) (h : ∀ v, Lib.atoiAll l ≠ .ok v) : ∃ z, pAtoi 2 3 T [strOf l] s = some (.tuple ⟨[.int .i64 z, .iface T (ptr s.next 0)]⟩, s.bump 1) := by
  unfold pAtoi strOf
  simp only
  rw [if_pos ⟨by show l.length ≤ _; omega, G.syn, G.rng⟩]
  cases e : Lib.atoiAll l with
  | ok v => exact absurd e (h v)
  | range => exact ⟨_, rfl⟩
  | _ => exact ⟨_, rfl⟩
theorem pCutPrefix_run (a b : Ln) (s : St) : pCutPrefix [strOf a, strOf b] s = some (.tuple ⟨[strOf (if b.isPrefixOf a then a.drop b.length else a), .bool (b.isPrefixOf a)]⟩, s) := rfl
theorem pHasPrefix_run (a b : Ln) (s : St) : pHasPrefix [strOf a, strOf b] s = some (.bool (b.isPrefixOf a), s) := rfl
theorem pCutSuffix_run (a b : Ln) (s : St) (h : a.length ≤ 1000000) : pCutSuffix [strOf a, strOf b] s = some (.tuple ⟨[strOf (if b.isSuffixOf a then a.take (a.length - b.length) else a), .bool (b.isSuffixOf a)]⟩, s) := by
  unfold pCutSuffix strOf
  simp only
  rw [if_pos (by show a.length ≤ _; omega)]
  rfl
theorem isNil_nil : isNil NK.ifc Value.nilIface = some true := rfl
theorem isNil_iface (T : Nat) (v : Value) : isNil NK.ifc (.iface T v) = some false := rfl
theorem nth0 (x : Value) (l : List Value) : nthL (x :: l) 0 = some x := rfl
theorem nth1 (x y : Value) (l : List Value) : nthL (x :: y :: l) 1 = some y := rfl
set_option maxHeartbeats 2000000 in
theorem isNumber_run (P : Prims E) (hf : Has E f Code.page_isNumber) (G : Gl s) {l : Ln} (hl : l.length ≤ 1000000) : Cv E f [strOf l] s fun r t => r = .bool (isNum l) ∧ Low s.next s t := by
  obtain ⟨T, hP⟩ := P.atoi
  refine Cv_of hf.code ?_
  have h0 : (Tr.ofList (.e : Fr) 0 [strOf l]).get 0 = some (strOf l) := rfl
  generalize (Tr.ofList (.e : Fr) 0 [strOf l]) = fr0 at h0
  unfold Code.page_isNumber
  refine W_seq (W_region (by simp only [simq, Int.reduceEq, Nat.reduceEqDiff]; rfl) ?_)
  have hnum := isNum_atoi l
  by_cases hok : ∃ v, Lib.atoiAll l = .ok v
  · obtain ⟨v, hv⟩ := hok
    have hp := pAtoi_ok (T := T) G hl hv
    rw [hv] at hnum
    simp only at hnum
    refine W_seq (W_opsM (Wo_all (by simp only [simq, Int.reduceEq, Nat.reduceEqDiff, h0, pc_some hP, hp, nth0, nth1]; rfl) ?_))
    show W E _ _ _ _
    cases d1 : decide ((0 : Int) ≤ v) with
    | false =>
      refine W_seq (W_opsM (Wo_all (by simp only [simq, Int.reduceEq, Nat.reduceEqDiff, d1, isNil_nil]; rfl) ?_))
      refine W_ret ⟨rfl, _, res_tmp res_nil, ?_, Low.self s⟩
      simp only [simq, Int.reduceEq, Nat.reduceEqDiff, tupled, hnum, d1]; rfl
    | true =>
    cases d2 : decide (v ≤ 999) with
    | false =>
      refine W_seq (W_opsM (Wo_all (by simp only [simq, Int.reduceEq, Nat.reduceEqDiff, d1, d2, isNil_nil]; rfl) ?_))
      refine W_ret ⟨rfl, _, res_tmp res_nil, ?_, Low.self s⟩
      simp only [simq, Int.reduceEq, Nat.reduceEqDiff, tupled, hnum, d1, d2]; rfl
    | true =>
      have hv0 : v = ((v.toNat : Nat) : Int) := by rw [decide_eq_true_eq] at d1; omega
      have hv9 : v.toNat ≤ 999 := by rw [decide_eq_true_eq] at d2; omega
      have hi := pItoa_run (s := s) (g := 0) (n := v.toNat) G.tab (by omega)
      rw [← hv0] at hi
      refine W_seq (W_opsM (Wo_all (by simp only [simq, Int.reduceEq, Nat.reduceEqDiff, h0, d1, d2, pc_some P.itoa, hi, isNil_nil]; rfl) ?_))
      refine W_ret ⟨rfl, _, res_tmp res_nil, ?_, Low.self s⟩
      have e : Lib.itoa v = Lib.decDigits v.toNat := by
        have : ¬ v < 0 := by rw [decide_eq_true_eq] at d1; omega
        unfold Lib.itoa; rw [if_neg this]
      simp only [simq, Int.reduceEq, Nat.reduceEqDiff, tupled, hnum, d1, d2, e]; rfl
  · obtain ⟨z, hp⟩ := pAtoi_bad (T := T) G hl (fun v h => hok ⟨v, h⟩)
    have hf0 : isNum l = false := by
      rw [hnum]
      cases e : Lib.atoiAll l with
      | ok v => exact absurd ⟨v, e⟩ hok
      | _ => rfl
    refine W_seq (W_opsM (Wo_all (by simp only [simq, Int.reduceEq, Nat.reduceEqDiff, h0, pc_some hP, hp, nth0, nth1]; rfl) ?_))
    show W E _ _ _ _
    refine W_seq (W_opsM (Wo_all (by simp only [simq, Int.reduceEq, Nat.reduceEqDiff, isNil_iface]; rfl) ?_))
    refine W_ret ⟨rfl, _, res_tmp res_nil, ?_, (Low.self s).bump 1⟩
    simp only [simq, Int.reduceEq, Nat.reduceEqDiff, tupled, hf0]
set_option maxHeartbeats 8000000 in
theorem isName_run (hf : Has E f Code.page_isName) (l : Ln) (hl : l.length ≤ 1000000) : Cv E f [strOf l] s fun r t => r = .bool (isNm l) ∧ Low s.next s t := by
  refine Cv_of hf.code ?_
  have h0 : (Tr.ofList (.e : Fr) 0 [strOf l]).get 0 = some (strOf l) := rfl
  generalize (Tr.ofList (.e : Fr) 0 [strOf l]) = fr0 at h0
  unfold Code.page_isName
  refine W_seq (W_region (by simp only [simq, Int.reduceEq, Nat.reduceEqDiff]; rfl) ?_)
  have hroom : Nat.ble l.length room = true := Nat.ble_eq_true_of_le (by unfold room; omega)
  refine W_seq (W_seq (W_region (by simp only [simq, Int.reduceEq, Nat.reduceEqDiff, h0, lenL_eq, hroom, mapL_eq]; rfl) ?_))
  have g1 : Gr ((s.skip 4).set (s.next + 1) (.cells (l.map ofByte) 1 .gr)) (s.next + 1) 1 (sl (s.next + 1) l.length) (l.map ofByte) := .mk (Nat.le_refl _) (by rw [St.next_set, next_skip]; omega) (St.get_set_same _ _ _) rfl (by simp)
  have L1 : Low s.next s ((s.skip 4).set (s.next + 1) (.cells (l.map ofByte) 1 .gr)) := ((Low.self s).skip 4).set (by omega) _
  generalize (s.skip 4).set (s.next + 1) (.cells (l.map ofByte) 1 .gr) = s1 at g1 L1
  have S1 := g1.sl
  have hv : Value.slice (some ⟨s.next + 1, 0, none⟩) l.length open_ = sl (s.next + 1) l.length := rfl
  rw [hv]
  generalize sl (s.next + 1) l.length = v at S1
  obtain ⟨p, n, c, rfl, hn⟩ := S1.parts
  rw [List.length_map, Nat.mul_one] at hn
  subst hn
  show W E _ _ _ _
  refine W_block ?_
  unfold Code.page_isName_l0
  refine W_for (n := l.length) (fun i fr t => t = s1 ∧ fr.get 0 = some (strOf l) ∧ fr.get 6 = some (.slice p l.length c) ∧ (l.take i).all nmc = true) (by omega) (by decide) ?_ ?_ ?_ 0 (Nat.zero_le _) ⟨rfl, by simp only [simq, Int.reduceEq, Nat.reduceEqDiff, h0], by simp only [simq, Int.reduceEq, Nat.reduceEqDiff], rfl⟩ (by simp only [simq, Int.reduceEq, Nat.reduceEqDiff]; rfl) (by simp only [simq, Int.reduceEq, Nat.reduceEqDiff]; rfl)
  · rintro i fr t x v hx ⟨e0, e1, e2, e3⟩
    refine ⟨e0, ?_, ?_, e3⟩ <;> rcases hx with rfl | rfl | rfl <;> simp only [simq, Int.reduceEq, Nat.reduceEqDiff, e1, e2]
  · rintro i fr t hlt ⟨ht, e0, e6, hall⟩ h8 h7
    rw [ht]; clear ht
    obtain ⟨a, rfl, hcell⟩ := S1.cell (i := i) (by rw [List.length_map]; exact hlt)
    rw [List.getElem?_map, List.getElem?_eq_getElem hlt, Option.map_some] at hcell
    have hb : Nat.blt i l.length = true := by rw [Nat.blt_eq]; exact hlt
    have hne := nmc_eq l[i]
    have hcl : l[i] = l[i] := rfl
    generalize hcc : l[i] = ch at hcell hne
    refine W_seq (W_region (by simp only [simq, Int.reduceEq, Nat.reduceEqDiff, e6, h8, hb, hcell]; rfl) (W_seq (W.mono (Q := fun e fr' t' => e = .normal ∧ t' = s1 ∧ fr'.get 29 = some (.bool (!nmc ch)) ∧ fr'.get 0 = some (strOf l) ∧ fr'.get 6 = some (.slice (some a) l.length c) ∧ fr'.get 8 = some (.int .i64 (i : Nat)) ∧ fr'.get 7 = some (.int .i64 (l.length : Nat))) ?_ ?_)))
    · cases d1 : decide ((ch.toNat : Int) < 97) <;> cases d2 : decide ((122 : Int) < ch.toNat) <;> cases d3 : decide ((ch.toNat : Int) < 48) <;> cases d4 : decide ((57 : Int) < ch.toNat) <;> cases d5 : decide ((ch.toNat : Int) = 45) <;>
        exact W_region (by simp only [simq, Int.reduceEq, Nat.reduceEqDiff, ofByte_int, d1, d2, d3, d4, d5]; rfl) ⟨rfl, rfl, by simp only [simq, Int.reduceEq, Nat.reduceEqDiff, hne, d1, d2, d3, d4, d5]; rfl, by simp only [simq, Int.reduceEq, Nat.reduceEqDiff, e0], by simp only [simq, Int.reduceEq, Nat.reduceEqDiff, e6], by simp only [simq, Int.reduceEq, Nat.reduceEqDiff, h8], by simp only [simq, Int.reduceEq, Nat.reduceEqDiff, h7]⟩
    rintro _ fr1 t1 ⟨rfl, ht, q29, q0, q6, q8, q7⟩
    rw [ht]; clear ht
    show W E _ fr1 _ _
    refine W_ifb (q := !nmc ch) (by simp only [simq, Int.reduceEq, Nat.reduceEqDiff, q29]) (fun hq => ?_) (fun hq => W_skip ?_)
    · refine W_seq (W_region (by simp only [simq, Int.reduceEq, Nat.reduceEqDiff]; rfl) (W_ret ⟨rfl, _, res_tmp res_nil, ?_, L1⟩))
      have : isNm l = false := by
        unfold isNm
        have : l.all nmc = false := by
          cases e : l.all nmc with
          | false => rfl
          | true =>
            have := List.all_eq_true.1 e l[i] (List.getElem_mem hlt)
            rw [hcc] at this
            rw [this] at hq; cases hq
        rw [this]; rfl
      simp only [simq, Int.reduceEq, Nat.reduceEqDiff, tupled, this]
    · refine ⟨⟨rfl, q0, q6, ?_⟩, q8, q7⟩
      rw [all_take hlt, hall, hcc]
      simpa using hq
  · rintro fr t ⟨ht, e0, e6, hall⟩
    rw [ht]; clear ht
    rw [List.take_length] at hall
    show W E _ _ _ _
    have ln := len_ints l
    unfold isNm
    rw [hall, Bool.true_and, ← ln]
    cases d1 : decide ((1 : Int) ≤ ((l.length : Nat) : Int)) <;> cases d2 : decide (((l.length : Nat) : Int) ≤ 20) <;>
      exact W_seq (W_region (by simp only [simq, Int.reduceEq, Nat.reduceEqDiff, e0, lenL_eq, Int.ofNat_eq_natCast, d1, d2]; rfl) (W_ret ⟨rfl, _, res_tmp res_nil, by simp only [simq, Int.reduceEq, Nat.reduceEqDiff, tupled]; rfl, L1⟩))
end
end
end Go.Ev
