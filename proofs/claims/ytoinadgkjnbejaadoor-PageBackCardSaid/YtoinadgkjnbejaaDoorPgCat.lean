/-
  Lists of texts, one after the other: slices.Concat.
-/
import Derived.Test.YtoinadgkjnbejaaDoorPgApp
import Derived.Test.YtoinadgkjnbejaaDoorPgText
set_option linter.unusedVariables false
set_option linter.unusedSimpArgs false
namespace Go.Ev
noncomputable section
open Go.Pg
section
variable {E : Env} {f : FuncId} {s : St}
theorem beq_ne' {a b : Nat} (h : a ≠ b) : Nat.beq a b = false := by
  cases e : Nat.beq a b with
  | false => rfl
  | true => rw [Nat.beq_eq] at e; exact absurd e h
theorem flat1 (n : Nat) (v : Value) : (List.replicate n [v]).flatten = List.replicate n v := by
  induction n with
  | zero => rfl
  | succ n ih => rw [List.replicate_succ, List.replicate_succ, List.flatten_cons, ih]; rfl
def Fils (s : St) (lo n : Nat) (v : Value) (cs : List Value) : Prop := (n = 0 ∧ v = .slice none 0 0 ∧ cs = []) ∨
  ∃ b row es, v = sl b cs.length ∧ lo ≤ b ∧ b < s.next ∧ s.get b = some (.cells row es .gr) ∧ esz es = 1 ∧ row.length = n ∧ cs.length ≤ n ∧ row.take cs.length = cs ∧ 0 < n
theorem GrowS_run (hf : Has E f Code.slices_Grow_string_string) {n : Nat} (hn : n ≤ 1000000000) : Cv E f [.slice none 0 0, .int .i64 (n : Nat)] s fun v s' => Fils s' s.next n v [] ∧ Low s.next s s' := by
  refine Cv_of hf.code ?_
  have h0 : (Tr.ofList (.e : Fr) 0 [.slice none 0 0, .int .i64 (n : Nat)]).get 0 = some (.slice none 0 0) := rfl
  have h1 : (Tr.ofList (.e : Fr) 0 [.slice none 0 0, .int .i64 (n : Nat)]).get 1 = some (.int .i64 (n : Nat)) := rfl
  generalize (Tr.ofList (.e : Fr) 0 [.slice none 0 0, .int .i64 (n : Nat)]) = fr0 at h0 h1
  unfold Code.slices_Grow_string_string
  have e1 : decide ((n : Int) < 0) = false := by simp
  have e2 : wr .i64 (Int.ofNat 0 - Int.ofNat 0) = 0 := rfl
  have e3 : wr .i64 ((n : Int) - 0) = (n : Int) := by rw [Int.sub_zero]; exact wr_i64_nat (by omega)
  have e4 : (!Nat.beq 0 open_) = true := rfl
  refine W_seq (W_region (by simp only [simq, Int.reduceEq, Nat.reduceEqDiff]; rfl) ?_)
  refine W_seq (W_seq (W_region (by simp only [simq, Int.reduceEq, Nat.reduceEqDiff, h1, e1]; rfl) (W_else (by simp only [simq, Int.reduceEq, Nat.reduceEqDiff]) (W_skip ?_))))
  refine W_seq (W_seq (W_region (by simp only [simq, Int.reduceEq, Nat.reduceEqDiff, h0, h1, e2, e3, e4]; rfl) (W_seq (W_region (by simp only [simq, Int.reduceEq, Nat.reduceEqDiff]; rfl) ?_))))
  refine W_if (p := (0 : Int) < (n : Int)) (by simp only [simq, Int.reduceEq, Nat.reduceEqDiff]) (fun hp => ?_) (fun hp => W_skip ?_)
  · have g1 : sliceOp s 1 (.slice none 0 0) none (some (.int .i64 (Int.ofNat 0))) none = some (.slice none 0 0) := rfl
    refine W_ops (Wo_run (l := [_, _, _, _, _]) (by simp only [simq, Int.reduceEq, Nat.reduceEqDiff, h0, e4, g1]; rfl) ?_)
    have g2 : ∀ fr : Fr, fr.get 20 = some (.slice none 0 0) → fr.get 21 = some (.int .i64 (n : Nat)) → cAppendZ (tag 9 1) 1 16 [strOf []] (.t 20) (.t 21) fr s (s.next + 5) = some (sl s.next n, s.made (List.replicate n (strOf [])) (tag 9 1) .gr) := by
      intro fr k1 k2
      show ob (asNat ((Arg.t 21).ev fr)) (fun n => must (Nat.ble (n * 16) room) (must (Nat.ble n room) (appendNew (tag 9 1) 1 16 s ((Arg.t 20).ev fr) n (zeros n [strOf []])))) = _
      rw [ev_t, ev_t, k1, k2, orUndef_some, orUndef_some, asNat_int, ob_some, Nat.ble_eq_true_of_le (by unfold room; omega), must_true, Nat.ble_eq_true_of_le (by unfold room; omega), must_true]
      show cnd (Nat.beq n 0) _ (must (Nat.ble ((0 + n) * 16) room) (some (sl s.next (0 + n), s.made (zeros n [strOf []]) (tag 9 1) .gr))) = _
      rw [beq_ne' (by omega), cnd_false, Nat.zero_add, Nat.ble_eq_true_of_le (by unfold room; omega), must_true, zeros_eq, flat1]
    refine Wo_run (l := [_]) (by simp only [simq, Int.reduceEq, Nat.reduceEqDiff]; rw [g2 _ (by simp only [simq, Int.reduceEq, Nat.reduceEqDiff]) (by simp only [simq, Int.reduceEq, Nat.reduceEqDiff])]; rfl) ?_
    have g3 : sliceOp (s.made (List.replicate n (strOf [])) (tag 9 1) .gr) 1 (.slice (some ⟨s.next, 0, none⟩) n open_) none (some (.int .i64 (Int.ofNat 0))) none = some (.slice (some ⟨s.next, 0, none⟩) 0 open_) := by
      show cnd (Nat.beq open_ open_) (sliceOpen (s.made (List.replicate n (strOf [])) (tag 9 1) .gr) 1 (some ⟨s.next, 0, none⟩) n none (some (.int .i64 (Int.ofNat 0))) none) (sliceExact 1 (some ⟨s.next, 0, none⟩) n open_ none (some (.int .i64 (Int.ofNat 0))) none) = _
      rw [Nat.beq_refl, cnd_true]
      have : (s.made (List.replicate n (strOf [])) (tag 9 1) .gr).known 1 ⟨s.next, 0, none⟩ = some n := by
        show ob (asCells ((s.made (List.replicate n (strOf [])) (tag 9 1) .gr).get s.next)) _ = _
        rw [get_made, if_pos rfl, asCells_c, ob_some]
        simp only
        rw [esz_tag (by decide), Nat.beq_refl, must_true, lenL_eq, List.length_replicate, Nat.div_one, Nat.sub_zero]
        rfl
      show ob ((s.made (List.replicate n (strOf [])) (tag 9 1) .gr).known 1 ⟨s.next, 0, none⟩) (fun k => ob (bound none k k) fun m => ob (bound (some (.int .i64 (Int.ofNat 0))) n m) fun h => ob (bound none 0 h) fun l => some (Value.slice (some ((⟨s.next, 0, none⟩ : Addr).add (l * 1))) (h - l) open_)) = _
      rw [this]
      rfl
    refine Wo_all (by simp only [simq, Int.reduceEq, Nat.reduceEqDiff, h0, g3]; rfl) ?_
    refine W_seq (W_region (by simp only [simq, Int.reduceEq, Nat.reduceEqDiff]; rfl) (W_ret ⟨rfl, _, res_tmp res_nil, ?_⟩))
    refine ⟨.inr ⟨s.next, List.replicate n (strOf []), tag 9 1, ?_, Nat.le_refl _, by rw [next_made]; omega, by rw [get_made, if_pos rfl], esz_tag (by decide), by simp, by simp, rfl, by omega⟩, (Low.self s).made _ _ _⟩
    simp only [simq, Int.reduceEq, Nat.reduceEqDiff, tupled]
    rfl
  · have hz : n = 0 := by omega
    refine W_seq (W_region (by simp only [simq, Int.reduceEq, Nat.reduceEqDiff, h0]; rfl) (W_ret ⟨rfl, _, res_tmp res_nil, ?_⟩))
    exact ⟨.inl ⟨hz, by simp only [simq, Int.reduceEq, Nat.reduceEqDiff, tupled], rfl⟩, Low.self s⟩
theorem append_fils {lo n : Nat} {T : Nat} {v : Value} {cs new : List Value} {y : Value} (h : Fils s lo n v cs) (hlo : lo ≤ s.next) (hy : Feed s 1 y new) (hfit : cs.length + new.length ≤ n) (hn : n ≤ 1000000000) :
    ∃ v' s', appendOp (tag T 1) 1 16 s v y = some (v', s') ∧ Fils s' lo n v' (cs ++ new) ∧ Low lo s s' := by
  obtain ⟨m, h1, h2, h3⟩ := hy
  rw [Nat.mul_one] at h3
  have e0 : appendOp (tag T 1) 1 16 s v y = appendNew (tag T 1) 1 16 s v m new := by
    show ob (lenOf y) (fun n => ob (s.elems 1 y n) fun new => appendNew (tag T 1) 1 16 s v n new) = _
    rw [h1, ob_some, h2, ob_some]
  rw [e0]
  by_cases hm : m = 0
  · subst hm
    obtain rfl : new = [] := List.length_eq_zero_iff.1 h3
    refine ⟨v, s, ?_, by rw [List.append_nil]; exact h, .refl hlo⟩
    rcases h with ⟨_, rfl, _⟩ | ⟨b, row, es, rfl, _⟩ <;> rfl
  · rcases h with ⟨rfl, rfl, rfl⟩ | ⟨b, row, es, rfl, g1, g2, g3, g4, g5, g6, g7, g8⟩
    · simp only [List.length_nil] at hfit; omega
    · have hput : s.put ⟨b, cs.length, none⟩ new = some (s.set b (.cells (splice row cs.length new) es .gr)) := by
        show ob (asCells (s.get b)) (fun c => must c.2.2.writes (must (Nat.ble (cs.length + lenL new) (lenL c.1)) (some (s.set b (.cells (splice c.1 cs.length new) c.2.1 c.2.2))))) = _
        rw [g3]
        show must true (must (Nat.ble (cs.length + lenL new) (lenL row)) _) = _
        rw [must_true, lenL_eq, lenL_eq, Nat.ble_eq_true_of_le (by omega), must_true]
      have hadd : (⟨b, 0, none⟩ : Addr).add (cs.length * 1) = ⟨b, cs.length, none⟩ := by rw [add_eq, Nat.mul_one, Nat.zero_add]
      have hne : Nat.beq (0 + cs.length * 1) (lenL row) = false := by rw [lenL_eq]; exact beq_ne' (by omega)
      refine ⟨sl b (cs.length + m), s.set b (.cells (splice row cs.length new) es .gr), ?_, .inr ⟨b, splice row cs.length new, es, ?_, g1, g2, St.get_set_same _ _ _, g4, ?_, ?_, ?_, g8⟩, (Low.refl hlo).set g1 _⟩
      · show cnd (Nat.beq m 0) _ (must (Nat.ble ((cs.length + m) * 16) room) (cnd (Nat.beq open_ open_) (ob (asCells (s.get b)) fun c => cnd (Nat.beq (0 + cs.length * 1) (lenL c.1)) (appendEnd s (tag T 1) 1 ⟨b, 0, none⟩ (cs.length + m) new c.1 c.2.1 c.2.2) (must (Nat.beq (esz c.2.1) 1) (must c.2.2.grows (om (s.put ((⟨b, 0, none⟩ : Addr).add (cs.length * 1)) new) fun s => (.slice (some ⟨b, 0, none⟩) (cs.length + m) open_, s))))) _)) = _
        rw [beq_ne' hm, cnd_false, Nat.ble_eq_true_of_le (by unfold room; omega), must_true, Nat.beq_refl, cnd_true, g3]
        show cnd (Nat.beq (0 + cs.length * 1) (lenL row)) _ (must (Nat.beq (esz es) 1) (must true (om (s.put ((⟨b, 0, none⟩ : Addr).add (cs.length * 1)) new) fun s => (Value.slice (some ⟨b, 0, none⟩) (cs.length + m) open_, s)))) = _
        rw [hne, cnd_false, g4, Nat.beq_refl, must_true, must_true, hadd, hput, om_some]; rfl
      · rw [List.length_append, h3]
      · rw [splice_length _ _ _ (by omega), g5]
      · rw [List.length_append]; omega
      · rw [splice_eq, List.length_append, List.append_assoc]
        conv => lhs; rw [← List.append_assoc]
        rw [List.take_append_of_le_length (by rw [List.length_append, List.length_take]; omega), List.take_of_length_le (by rw [List.length_append, List.length_take]; omega), g7]
theorem Fils.full {lo n : Nat} {v : Value} {cs : List Value} (h : Fils s lo n v cs) (hn : cs.length = n) : Gr s lo 1 v cs := by
  rcases h with ⟨_, rfl, rfl⟩ | ⟨b, row, es, rfl, g1, g2, g3, g4, g5, g6, g7, g8⟩
  · exact .nil
  · rw [List.take_of_length_le (by omega)] at g7
    subst g7
    exact .mk g1 g2 g3 g4 (by omega)
theorem ConcatS_run (hC : Codes E) (hf : Has E f Code.slices_Concat_string_string) {hi : Nat} {v : Value} {vs : List Value} {ls : List (List Ln)} (hhi : hi ≤ s.next) (hv : Sl s hi 1 v vs) (hls : vs.length = ls.length)
    (heach : ∀ (i : Nat) (x : Value) (l : List Ln), vs[i]? = some x → ls[i]? = some l → Sl s hi 1 x (l.map strOf)) (htot : ls.flatten.length ≤ 100000000) (hvl : vs.length ≤ 1000000) : Cv E f [v] s fun r s' => Gr s' s.next 1 r (ls.flatten.map strOf) ∧ Low s.next s s' := by
  obtain ⟨p, m, c, rfl, hm⟩ := hv.parts
  rw [Nat.mul_one] at hm
  subst hm
  refine Cv_of hf.code ?_
  have h0 : (Tr.ofList (.e : Fr) 0 [.slice p vs.length c]).get 0 = some (.slice p vs.length c) := rfl
  generalize (Tr.ofList (.e : Fr) 0 [.slice p vs.length c]) = fr0 at h0
  unfold Code.slices_Concat_string_string
  have htake : ∀ i, i < ls.length → ∃ (h : i < ls.length), (ls.take (i + 1)).flatten = (ls.take i).flatten ++ ls[i] := by
    intro i hi
    exact ⟨hi, by rw [List.take_succ_eq_append_getElem hi, List.flatten_append]; simp⟩
  have hle : ∀ i, (ls.take i).flatten.length ≤ ls.flatten.length := by
    intro i
    conv => rhs; rw [← List.take_append_drop i ls, List.flatten_append, List.length_append]
    omega
  have helem : ∀ i (hlt : i < vs.length), ∃ (hi2 : i < ls.length) (p : Option Addr) (c : Nat), vs[i] = .slice p ls[i].length c ∧ Sl s hi 1 vs[i] (ls[i].map strOf) := by
    intro i hlt
    have hi2 : i < ls.length := by omega
    have := heach i vs[i] ls[i] (List.getElem?_eq_getElem hlt) (List.getElem?_eq_getElem hi2)
    obtain ⟨p, n, c, e, hn⟩ := this.parts
    rw [List.length_map, Nat.mul_one] at hn
    exact ⟨hi2, p, c, by rw [e, hn], this⟩
  refine W_seq (W_region (by simp only [simq, Int.reduceEq, Nat.reduceEqDiff]; rfl) (W_seq (W_region (by simp only [simq, Int.reduceEq, Nat.reduceEqDiff]; rfl) ?_)))
  refine W_seq (W_seq (W_region (by simp only [simq, Int.reduceEq, Nat.reduceEqDiff, h0, Int.ofNat_eq_natCast]; rfl) ?_))
  refine W_block ?_
  unfold Code.slices_Concat_string_string_l0
  refine W_for (n := vs.length) (fun i fr t => t = s ∧ fr.get 9 = some (.slice p vs.length c) ∧ fr.get 3 = some (.int .i64 ((ls.take i).flatten.length : Nat)) ∧ fr.get 0 = some (.slice p vs.length c)) (by omega) (by decide) ?_ ?_ ?_ 0 (Nat.zero_le _) ⟨rfl, by simp only [simq, Int.reduceEq, Nat.reduceEqDiff], by simp only [simq, Int.reduceEq, Nat.reduceEqDiff, List.take_zero]; rfl, by simp only [simq, Int.reduceEq, Nat.reduceEqDiff, h0]⟩ (by simp only [simq, Int.reduceEq, Nat.reduceEqDiff]; rfl) (by simp only [simq, Int.reduceEq, Nat.reduceEqDiff])
  · rintro i fr t x v hx ⟨e0, e1, e2, e3⟩
    refine ⟨e0, ?_, ?_, ?_⟩ <;> rcases hx with rfl | rfl | rfl <;> simp only [simq, Int.reduceEq, Nat.reduceEqDiff, e1, e2, e3]
  · rintro i fr t hlt ⟨rfl, e1, e2, e3⟩ h11 h10
    obtain ⟨hi2, p1, c1, g1, g2⟩ := helem i hlt
    obtain ⟨hi3, g3⟩ := htake i hi2
    obtain ⟨a, rfl, hcell⟩ := hv.cell hlt
    rw [List.getElem?_eq_getElem hlt, g1] at hcell
    have hb : Nat.blt i vs.length = true := by rw [Nat.blt_eq]; exact hlt
    have hl1 := hle (i + 1)
    rw [g3, List.length_append] at hl1
    have g4 : wr .i64 (((ls.take i).flatten.length : Nat) + ((ls[i].length : Nat) : Int)) = (((ls.take i).flatten.length + ls[i].length : Nat) : Int) := by rw [wr_i64 (by omega) (by omega)]; omega
    have g5 : decide ((((ls.take i).flatten.length + ls[i].length : Nat) : Int) < 0) = false := by simp; omega
    refine W_seq (W_region (by simp only [simq, Int.reduceEq, Nat.reduceEqDiff, e1, h11, hb, hcell]; rfl) (W_seq (W_region (by simp only [simq, Int.reduceEq, Nat.reduceEqDiff, e2, g4, Int.ofNat_eq_natCast]; rfl) (W_seq (W_region (by simp only [simq, Int.reduceEq, Nat.reduceEqDiff, g5]; rfl) (W_else (by simp only [simq, Int.reduceEq, Nat.reduceEqDiff]) (W_skip ?_)))))))
    refine ⟨⟨rfl, by simp only [simq, Int.reduceEq, Nat.reduceEqDiff, e1], ?_, by simp only [simq, Int.reduceEq, Nat.reduceEqDiff, e3]⟩, by simp only [simq, Int.reduceEq, Nat.reduceEqDiff, h11], by simp only [simq, Int.reduceEq, Nat.reduceEqDiff, h10]⟩
    rw [g3, List.length_append]
    simp only [simq, Int.reduceEq, Nat.reduceEqDiff]
  · rintro fr t ⟨rfl, e1, e2, e3⟩
    rw [hls, List.take_length] at e2
    show W E _ _ _ _
    refine W_seq (W_opsM (Wo_run (by simp only [simq, Int.reduceEq, Nat.reduceEqDiff, e2]; rfl) (Wo_call hC.slices_Grow_string_string.prim (by simp only [simq, Int.reduceEq, Nat.reduceEqDiff]; rfl) ((GrowS_run hC.slices_Grow_string_string (by omega)).mono ?_))))
    rintro x s1 ⟨hfil, hlow⟩
    refine Wo_all (by simp only [simq, Int.reduceEq, Nat.reduceEqDiff]; rfl) ?_
    refine W_seq (W_seq (W_region (by simp only [simq, Int.reduceEq, Nat.reduceEqDiff, e3, Int.ofNat_eq_natCast]; rfl) ?_))
    refine W_block ?_
    unfold Code.slices_Concat_string_string_l1
    refine W_for (n := vs.length) (fun i fr u => Low t.next t u ∧ fr.get 25 = some (.slice p vs.length c) ∧ ∃ x, fr.get 6 = some x ∧ Fils u t.next ls.flatten.length x ((ls.take i).flatten.map strOf)) (by omega) (by decide) ?_ ?_ ?_ 0 (Nat.zero_le _) ⟨hlow, by simp only [simq, Int.reduceEq, Nat.reduceEqDiff], x, by simp only [simq, Int.reduceEq, Nat.reduceEqDiff], by rw [List.take_zero]; exact hfil⟩ (by simp only [simq, Int.reduceEq, Nat.reduceEqDiff]; rfl) (by simp only [simq, Int.reduceEq, Nat.reduceEqDiff])
    · rintro i fr u x v hx ⟨k1, k2, y, k3, k4⟩
      refine ⟨k1, ?_, y, ?_, k4⟩ <;> rcases hx with rfl | rfl | rfl <;> simp only [simq, Int.reduceEq, Nat.reduceEqDiff, k2, k3]
    · rintro i fr u hlt ⟨k1, k2, y, k3, k4⟩ h27 h26
      obtain ⟨hi2, p1, c1, g1, g2⟩ := helem i hlt
      obtain ⟨hi3, g3⟩ := htake i hi2
      obtain ⟨a, rfl, hcell⟩ := (hv.low k1 hhi).cell hlt
      rw [List.getElem?_eq_getElem hlt] at hcell
      have hb : Nat.blt i vs.length = true := by rw [Nat.blt_eq]; exact hlt
      have hl1 := hle (i + 1)
      rw [g3, List.length_append] at hl1
      obtain ⟨y', u', g4, g5, g6⟩ := append_fils (T := 9) k4 k1.le (g2.low k1 hhi).feed (by rw [List.length_map, List.length_map]; exact hl1) (by omega)
      refine W_seq (W_region (by simp only [simq, Int.reduceEq, Nat.reduceEqDiff, k2, h27, hb, hcell]; rfl) (W_region (by simp only [simq, Int.reduceEq, Nat.reduceEqDiff, k3, g4]; rfl) ?_))
      refine ⟨⟨k1.trans g6, by simp only [simq, Int.reduceEq, Nat.reduceEqDiff, k2], y', by simp only [simq, Int.reduceEq, Nat.reduceEqDiff], ?_⟩, by simp only [simq, Int.reduceEq, Nat.reduceEqDiff, h27], by simp only [simq, Int.reduceEq, Nat.reduceEqDiff, h26]⟩
      rw [g3, List.map_append]
      exact g5
    · rintro fr u ⟨k1, k2, y, k3, k4⟩
      rw [hls, List.take_length] at k4
      show W E _ _ _ _
      refine W_seq (W_region (by simp only [simq, Int.reduceEq, Nat.reduceEqDiff, k3]; rfl) (W_ret ⟨rfl, _, res_tmp res_nil, ?_⟩))
      refine ⟨?_, k1⟩
      have := k4.full (by rw [List.length_map])
      simp only [simq, Int.reduceEq, Nat.reduceEqDiff, tupled]
      exact this
end
end
end Go.Ev
