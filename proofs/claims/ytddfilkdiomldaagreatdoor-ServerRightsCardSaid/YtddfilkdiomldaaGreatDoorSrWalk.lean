/-
  ServerRights, walked: true, whatever it is asked.
-/
import Derived.Test.YtddfilkdiomldaaGreatDoorSrGet
set_option linter.unusedVariables false
set_option linter.unusedSimpArgs false
namespace Go.Ev
noncomputable section
section
variable {E : Env} {f : FuncId} {s : St} {o g fo fg fa : Int} {b : Bool}
def putE (o g fo fg fa : Int) : Int := if okR o g fo fg fa then 0 else 2
def putB (o g fo fg fa : Int) (b : Bool) : List UInt8 := if okR o g fo fg fa then bytesR o g fo fg fa b else []
theorem put_any {r : Value} {s' : St} (h : (okR o g fo fg fa ∧ ∃ x, r = .tuple ⟨[x, .int .i64 0]⟩ ∧ Gr s' s.next 1 x ((bytesR o g fo fg fa b).map ofByte) ∧ Low s.next s s') ∨ (¬ okR o g fo fg fa ∧ r = .tuple ⟨[.slice none 0 0, .int .i64 2]⟩ ∧ Low s.next s s')) :
    ∃ p n c, r = .tuple ⟨[.slice p n c, .int .i64 (putE o g fo fg fa)]⟩ ∧ Sl s' s'.next 1 (.slice p n c) ((putB o g fo fg fa b).map ofByte) ∧ Low s.next s s' := by
  rcases h with ⟨h1, x, rfl, h2, h3⟩ | ⟨h1, rfl, h3⟩
  · obtain ⟨p, n, c, rfl, _⟩ := h2.sl.parts
    exact ⟨p, n, c, by unfold putE; rw [if_pos h1], by unfold putB; rw [if_pos h1]; exact h2.sl, h3⟩
  · exact ⟨none, 0, 0, by unfold putE; rw [if_neg h1], by unfold putB; rw [if_neg h1]; exact .nil, h3⟩
theorem get_any (l : List UInt8) : ∃ (o g fo fg fa : Int) (b : Bool) (e : Int), getRV l = .tuple ⟨[.agg ⟨rightsC o g fo fg fa b⟩, .int .i64 e]⟩ := by
  unfold getRV getR
  split
  · rename_i cs h
    split at h
    · cases h; exact ⟨_, _, _, _, _, _, _, rfl⟩
    · cases h
  · exact ⟨0, 0, 0, 0, 0, false, 3, rfl⟩
theorem elems_of {hi size n c : Nat} {p : Option Addr} {cs : List Value} (h : Sl s hi size (.slice p n c) cs) : s.elems size (.slice p n c) n = some cs := h.elems
theorem eqR : placesEq [(0, .int), (1, .int), (2, .int), (3, .int), (4, .int), (5, .bool)] (rightsC o g fo fg fa b) (rightsC o g fo fg fa b) = some true := by
  have e : ∀ n : Int, iEq n n = true := fun n => by rw [iEq_eq]; simp
  show some (iEq o o && (iEq g g && (iEq fo fo && (iEq fg fg && (iEq fa fa && ((b == b) && true)))))) = some true
  rw [e, e, e, e, e]
  cases b <;> rfl
theorem GetRights_short (hf : Has E f Code.server_GetRights) {p : Option Addr} {n c : Nat} (hlen : n ≠ 12) : Cv E f [.slice p n c] s fun r s' => r = .tuple ⟨[.agg ⟨rightsC 0 0 0 0 0 false⟩, .int .i64 3]⟩ ∧ Low s.next s s' := by
  refine Cv_of hf.code ?_
  have h0 : (Tr.ofList (.e : Fr) 0 [.slice p n c]).get 0 = some (.slice p n c) := rfl
  generalize (Tr.ofList (.e : Fr) 0 [.slice p n c]) = fr0 at h0
  unfold Code.server_GetRights
  refine W_seq (W_ops (Wo_alloc (lo := s.next) (s0 := s) ((Low.self s).skip 2) (Nat.le_add_right _ _) (by rw [next_skip]; omega) fun s1 B1 _ _ => Wo_all (by simp only [sim, if_true, if_false, eq_self, Bool.false_eq_true, decide_true, decide_false, Int.reduceEq, Bool.not_true, Bool.not_false, Nat.reduceEqDiff, Nat.mul_one, Nat.zero_add, Nat.add_zero, Option.isNone_none, Option.isNone_some]; rfl) ?_))
  have B1 : Boxed s.next s s1 s.next (rightsC 0 0 0 0 0 false) := B1
  -- what is told of bytes that are no rights
  have bad : ∀ (fr : Fr) (t : St), fr.get 2 = some (ptr s.next 0) → fr.get 3 = some (.int .i64 3) → Boxed s.next s t s.next (rightsC 0 0 0 0 0 false) →
      isExit Ex.ret = false ∧ ∃ r, optL (oneRes fr t) [.cell 2 true 6, .tmp 3] = some r ∧ tupled r = .tuple ⟨[.agg ⟨rightsC 0 0 0 0 0 false⟩, .int .i64 3]⟩ ∧ Low s.next s t := by
    intro fr t g2 g3 hb
    refine ⟨rfl, _, res_cell g2 (hb.row rfl) (res_tmp res_nil), ?_, hb.low⟩
    rw [g3]; rfl
  have zput : ∀ {t : St} {cs : List Value}, cs.length = 6 → Boxed s.next s t s.next cs → ∀ vs : List Value, vs.length = 6 → ∃ u, t.put ⟨s.next, 0, none⟩ vs = some u ∧ Boxed s.next s u s.next vs := by
    intro t cs hcs hb vs hvs
    obtain ⟨u, h1, h2, _⟩ := hb.put (o := 0) (vs := vs) (by omega)
    refine ⟨u, h1, ?_⟩
    have : splice cs 0 vs = vs := by
      rw [splice_eq, List.take_zero, List.nil_append, List.drop_of_length_le (by omega), List.append_nil]
    rw [this] at h2
    exact h2
  have fillz : fillL [] [.int .i64 0, .int .i64 0, .int .i64 0, .int .i64 0, .int .i64 0, .bool false] = some (rightsC 0 0 0 0 0 false) := rfl
  have len6 : Nat.beq (lenL (rightsC 0 0 0 0 0 false)) 6 = true := rfl
  obtain ⟨sz, hz1, hz2⟩ := zput rfl B1 (rightsC 0 0 0 0 0 false) rfl
  have e1 : decide (((n : Nat) : Int) = 12) = false := by simp; omega
  refine W_seq (W_seq (W_region (by simp only [sim, if_true, if_false, eq_self, Bool.false_eq_true, decide_true, decide_false, Int.reduceEq, Bool.not_true, Bool.not_false, Nat.reduceEqDiff, Nat.mul_one, Nat.zero_add, Nat.add_zero, Option.isNone_none, Option.isNone_some, h0, Int.ofNat_eq_natCast, e1]; rfl) (W_then (by simp only [sim, if_true, if_false, eq_self, Bool.false_eq_true, decide_true, decide_false, Int.reduceEq, Bool.not_true, Bool.not_false, Nat.reduceEqDiff, Nat.mul_one, Nat.zero_add, Nat.add_zero, Option.isNone_none, Option.isNone_some]) ?_)))
  refine W_seq (W_region (by simp only [sim, if_true, if_false, eq_self, Bool.false_eq_true, decide_true, decide_false, Int.reduceEq, Bool.not_true, Bool.not_false, Nat.reduceEqDiff, Nat.mul_one, Nat.zero_add, Nat.add_zero, Option.isNone_none, Option.isNone_some, fillz, len6, hz1]; rfl) (W_ret (bad _ _ (by simp only [sim, if_true, if_false, eq_self, Bool.false_eq_true, decide_true, decide_false, Int.reduceEq, Bool.not_true, Bool.not_false, Nat.reduceEqDiff, Nat.mul_one, Nat.zero_add, Nat.add_zero, Option.isNone_none, Option.isNone_some]) (by simp only [sim, if_true, if_false, eq_self, Bool.false_eq_true, decide_true, decide_false, Int.reduceEq, Bool.not_true, Bool.not_false, Nat.reduceEqDiff, Nat.mul_one, Nat.zero_add, Nat.add_zero, Option.isNone_none, Option.isNone_some]) hz2)))
theorem refGetRights_short (hf : Has E f Code.tithingref25_GetRights) {p : Option Addr} {n c : Nat} (hlen : n ≠ 12) : Cv E f [.slice p n c] s fun r s' => r = .tuple ⟨[.agg ⟨rightsC 0 0 0 0 0 false⟩, .int .i64 3]⟩ ∧ Low s.next s s' := by
  refine Cv_of hf.code ?_
  have h0 : (Tr.ofList (.e : Fr) 0 [.slice p n c]).get 0 = some (.slice p n c) := rfl
  generalize (Tr.ofList (.e : Fr) 0 [.slice p n c]) = fr0 at h0
  unfold Code.tithingref25_GetRights
  refine W_seq (W_ops (Wo_alloc (lo := s.next) (s0 := s) ((Low.self s).skip 2) (Nat.le_add_right _ _) (by rw [next_skip]; omega) fun s1 B1 _ _ => Wo_all (by simp only [sim, if_true, if_false, eq_self, Bool.false_eq_true, decide_true, decide_false, Int.reduceEq, Bool.not_true, Bool.not_false, Nat.reduceEqDiff, Nat.mul_one, Nat.zero_add, Nat.add_zero, Option.isNone_none, Option.isNone_some]; rfl) ?_))
  have B1 : Boxed s.next s s1 s.next (rightsC 0 0 0 0 0 false) := B1
  -- what is told of bytes that are no rights
  have bad : ∀ (fr : Fr) (t : St), fr.get 2 = some (ptr s.next 0) → fr.get 3 = some (.int .i64 3) → Boxed s.next s t s.next (rightsC 0 0 0 0 0 false) →
      isExit Ex.ret = false ∧ ∃ r, optL (oneRes fr t) [.cell 2 true 6, .tmp 3] = some r ∧ tupled r = .tuple ⟨[.agg ⟨rightsC 0 0 0 0 0 false⟩, .int .i64 3]⟩ ∧ Low s.next s t := by
    intro fr t g2 g3 hb
    refine ⟨rfl, _, res_cell g2 (hb.row rfl) (res_tmp res_nil), ?_, hb.low⟩
    rw [g3]; rfl
  have zput : ∀ {t : St} {cs : List Value}, cs.length = 6 → Boxed s.next s t s.next cs → ∀ vs : List Value, vs.length = 6 → ∃ u, t.put ⟨s.next, 0, none⟩ vs = some u ∧ Boxed s.next s u s.next vs := by
    intro t cs hcs hb vs hvs
    obtain ⟨u, h1, h2, _⟩ := hb.put (o := 0) (vs := vs) (by omega)
    refine ⟨u, h1, ?_⟩
    have : splice cs 0 vs = vs := by
      rw [splice_eq, List.take_zero, List.nil_append, List.drop_of_length_le (by omega), List.append_nil]
    rw [this] at h2
    exact h2
  have fillz : fillL [] [.int .i64 0, .int .i64 0, .int .i64 0, .int .i64 0, .int .i64 0, .bool false] = some (rightsC 0 0 0 0 0 false) := rfl
  have len6 : Nat.beq (lenL (rightsC 0 0 0 0 0 false)) 6 = true := rfl
  obtain ⟨sz, hz1, hz2⟩ := zput rfl B1 (rightsC 0 0 0 0 0 false) rfl
  have e1 : decide (((n : Nat) : Int) = 12) = false := by simp; omega
  refine W_seq (W_seq (W_region (by simp only [sim, if_true, if_false, eq_self, Bool.false_eq_true, decide_true, decide_false, Int.reduceEq, Bool.not_true, Bool.not_false, Nat.reduceEqDiff, Nat.mul_one, Nat.zero_add, Nat.add_zero, Option.isNone_none, Option.isNone_some, h0, Int.ofNat_eq_natCast, e1]; rfl) (W_then (by simp only [sim, if_true, if_false, eq_self, Bool.false_eq_true, decide_true, decide_false, Int.reduceEq, Bool.not_true, Bool.not_false, Nat.reduceEqDiff, Nat.mul_one, Nat.zero_add, Nat.add_zero, Option.isNone_none, Option.isNone_some]) ?_)))
  refine W_seq (W_region (by simp only [sim, if_true, if_false, eq_self, Bool.false_eq_true, decide_true, decide_false, Int.reduceEq, Bool.not_true, Bool.not_false, Nat.reduceEqDiff, Nat.mul_one, Nat.zero_add, Nat.add_zero, Option.isNone_none, Option.isNone_some, fillz, len6, hz1]; rfl) (W_ret (bad _ _ (by simp only [sim, if_true, if_false, eq_self, Bool.false_eq_true, decide_true, decide_false, Int.reduceEq, Bool.not_true, Bool.not_false, Nat.reduceEqDiff, Nat.mul_one, Nat.zero_add, Nat.add_zero, Option.isNone_none, Option.isNone_some]) (by simp only [sim, if_true, if_false, eq_self, Bool.false_eq_true, decide_true, decide_false, Int.reduceEq, Bool.not_true, Bool.not_false, Nat.reduceEqDiff, Nat.mul_one, Nat.zero_add, Nat.add_zero, Option.isNone_none, Option.isNone_some]) hz2)))
theorem law_walk (hC : Codes E) (hf : Has E f Code.tithinglaw25_ServerRights) (hF : E.prim 8 = some pTrue) {v : Value} {o' g' fo' fg' fa' : Int} {b' : Bool} {e' : Int}
    (hG : ∀ t, Low s.next s t → Cv E 6 [v] t fun r t' => r = .tuple ⟨[.agg ⟨rightsC o' g' fo' fg' fa' b'⟩, .int .i64 e']⟩ ∧ Low t.next t t')
    (hR : ∀ t, Low s.next s t → Cv E 7 [v] t fun r t' => r = .tuple ⟨[.agg ⟨rightsC o' g' fo' fg' fa' b'⟩, .int .i64 e']⟩ ∧ Low t.next t t') :
    Cv E f [.agg ⟨rightsC o g fo fg fa b⟩, v] s fun r _ => r = .bool true := by
  refine Cv_of hf.code ?_
  have h0 : (Tr.ofList (.e : Fr) 0 [.agg ⟨rightsC o g fo fg fa b⟩, v]).get 0 = some (.agg ⟨rightsC o g fo fg fa b⟩) := rfl
  have h1 : (Tr.ofList (.e : Fr) 0 [.agg ⟨rightsC o g fo fg fa b⟩, v]).get 1 = some v := rfl
  generalize (Tr.ofList (.e : Fr) 0 [.agg ⟨rightsC o g fo fg fa b⟩, v]) = fr0 at h0 h1
  unfold Code.tithinglaw25_ServerRights
  have nth0 : ∀ (x y : Value), nthL [x, y] 0 = some x := fun _ _ => rfl
  have nth1 : ∀ (x y : Value), nthL [x, y] 1 = some y := fun _ _ => rfl
  have len6 : ∀ o g fo fg fa b, Nat.beq (lenL (rightsC o g fo fg fa b)) 6 = true := fun _ _ _ _ _ _ => rfl
  refine W_seq (W_ops (Wo_box (lo := s.next) (s0 := s) (by simp only [sim, if_true, if_false, eq_self, Bool.false_eq_true, decide_true, decide_false, Int.reduceEq, Bool.not_true, Bool.not_false, Nat.reduceEqDiff, Nat.mul_one, Nat.zero_add, Nat.add_zero, Option.isNone_none, Option.isNone_some, h0]; rfl) rfl rfl ((Low.self s).skip 2) (Nat.le_add_right _ _) (by rw [next_skip]; omega) fun s1 B1 _ _ => Wo_all (by simp only [sim, if_true, if_false, eq_self, Bool.false_eq_true, decide_true, decide_false, Int.reduceEq, Bool.not_true, Bool.not_false, Nat.reduceEqDiff, Nat.mul_one, Nat.zero_add, Nat.add_zero, Option.isNone_none, Option.isNone_some]; rfl) ?_))
  have B1 : Boxed s.next s s1 s.next (rightsC o g fo fg fa b) := B1
  -- put, twice
  refine W_seq (W_opsM (Wo_run (by simp only [sim, if_true, if_false, eq_self, Bool.false_eq_true, decide_true, decide_false, Int.reduceEq, Bool.not_true, Bool.not_false, Nat.reduceEqDiff, Nat.mul_one, Nat.zero_add, Nat.add_zero, Option.isNone_none, Option.isNone_some, B1.row (n := 6) rfl]; rfl) (Wo_call hC.server_PutRights.prim (by simp only [sim, if_true, if_false, eq_self, Bool.false_eq_true, decide_true, decide_false, Int.reduceEq, Bool.not_true, Bool.not_false, Nat.reduceEqDiff, Nat.mul_one, Nat.zero_add, Nat.add_zero, Option.isNone_none, Option.isNone_some]; try rfl) ((PutRights_run hC hC.server_PutRights).mono ?_))))
  intro r1 s2 hr1
  obtain ⟨p1, n1, c1, rfl, X2, l12⟩ := put_any hr1
  refine Wo_all (by simp only [sim, if_true, if_false, eq_self, Bool.false_eq_true, decide_true, decide_false, Int.reduceEq, Bool.not_true, Bool.not_false, Nat.reduceEqDiff, Nat.mul_one, Nat.zero_add, Nat.add_zero, Option.isNone_none, Option.isNone_some, nth0, nth1]; rfl) ?_
  have B2 := B1.go l12
  refine W_seq (W_opsM (Wo_run (by simp only [sim, if_true, if_false, eq_self, Bool.false_eq_true, decide_true, decide_false, Int.reduceEq, Bool.not_true, Bool.not_false, Nat.reduceEqDiff, Nat.mul_one, Nat.zero_add, Nat.add_zero, Option.isNone_none, Option.isNone_some, B2.row (n := 6) rfl]; rfl) (Wo_call hC.tithingref25_PutRights.prim (by simp only [sim, if_true, if_false, eq_self, Bool.false_eq_true, decide_true, decide_false, Int.reduceEq, Bool.not_true, Bool.not_false, Nat.reduceEqDiff, Nat.mul_one, Nat.zero_add, Nat.add_zero, Option.isNone_none, Option.isNone_some]; try rfl) ((refPutRights_run hC hC.tithingref25_PutRights).mono ?_))))
  intro r2 s3 hr2
  obtain ⟨p2, n2, c2, rfl, Y3, l23⟩ := put_any hr2
  refine Wo_all (by simp only [sim, if_true, if_false, eq_self, Bool.false_eq_true, decide_true, decide_false, Int.reduceEq, Bool.not_true, Bool.not_false, Nat.reduceEqDiff, Nat.mul_one, Nat.zero_add, Nat.add_zero, Option.isNone_none, Option.isNone_some, nth0, nth1]; rfl) ?_
  have B3 := B2.go l23
  have X3 := X2.low l23 (Nat.le_refl _)
  -- got, twice
  refine W_seq (W_opsM (Wo_run (by simp only [sim, if_true, if_false, eq_self, Bool.false_eq_true, decide_true, decide_false, Int.reduceEq, Bool.not_true, Bool.not_false, Nat.reduceEqDiff, Nat.mul_one, Nat.zero_add, Nat.add_zero, Option.isNone_none, Option.isNone_some, h1]; rfl) (Wo_call hC.server_GetRights.prim (by simp only [sim, if_true, if_false, eq_self, Bool.false_eq_true, decide_true, decide_false, Int.reduceEq, Bool.not_true, Bool.not_false, Nat.reduceEqDiff, Nat.mul_one, Nat.zero_add, Nat.add_zero, Option.isNone_none, Option.isNone_some]; try rfl) ((hG _ (B3.low.skip 8)).mono ?_))))
  rintro _ s4 ⟨rfl, l34'⟩
  have l34 : Low s3.next s3 s4 := ((Low.self s3).skip 8).trans (l34'.weak (by rw [next_skip]; omega))
  have n34 : s3.next + 8 ≤ s4.next := by
    have := l34'.2.1
    rw [next_skip] at this
    exact this
  have B4 := B3.go l34
  have len6' : ∀ (vs : List Value) (o g fo fg fa : Int) (b : Bool), vs.length = 6 → splice vs 0 (rightsC o g fo fg fa b) = rightsC o g fo fg fa b := by
    intro vs o g fo fg fa b h
    rw [splice_eq, List.take_zero, List.nil_append, List.drop_of_length_le (by rw [h]; show 6 ≤ 0 + 6; decide), List.append_nil]
  have ns3 := B3.low.2.1
  refine Wo_run (l := [_, _, _]) (by simp only [sim, if_true, if_false, eq_self, Bool.false_eq_true, decide_true, decide_false, Int.reduceEq, Bool.not_true, Bool.not_false, Nat.reduceEqDiff, Nat.mul_one, Nat.zero_add, Nat.add_zero, Option.isNone_none, Option.isNone_some, nth0, nth1]; rfl) ?_
  refine Wo_alloc (lo := s.next) (s0 := s) B4.low (by omega) (by omega) (fun s5 C5 hn5 hk5 => ?_)
  have B5 := B4.same hn5 hk5 (by have := B3.lt; omega) (by omega)
  have l35 : Low s3.next s3 s5 := l34.same hn5 hk5 (by omega)
  obtain ⟨s6, p6, C6, hn6, hk6⟩ := C5.put (o := 0) (vs := rightsC o' g' fo' fg' fa' b') (by show 0 + 6 ≤ 6; decide)
  rw [len6' _ _ _ _ _ _ _ rfl] at C6
  have B6 := B5.same hn6 hk6 (by have := B3.lt; omega) (by omega)
  have l36 : Low s3.next s3 s6 := l35.same hn6 hk6 (by omega)
  refine Wo_all (by simp only [sim, if_true, if_false, eq_self, Bool.false_eq_true, decide_true, decide_false, Int.reduceEq, Bool.not_true, Bool.not_false, Nat.reduceEqDiff, Nat.mul_one, Nat.zero_add, Nat.add_zero, Option.isNone_none, Option.isNone_some, len6, p6]; rfl) ?_
  -- the document's
  generalize hr9 : s3.next + 5 = r9 at C6 p6
  have n36 : s6.next = s4.next := hn6.trans hn5
  refine W_seq (W_opsM (Wo_run (by simp only [sim, if_true, if_false, eq_self, Bool.false_eq_true, decide_true, decide_false, Int.reduceEq, Bool.not_true, Bool.not_false, Nat.reduceEqDiff, Nat.mul_one, Nat.zero_add, Nat.add_zero, Option.isNone_none, Option.isNone_some, h1]; rfl) (Wo_call hC.tithingref25_GetRights.prim (by simp only [sim, if_true, if_false, eq_self, Bool.false_eq_true, decide_true, decide_false, Int.reduceEq, Bool.not_true, Bool.not_false, Nat.reduceEqDiff, Nat.mul_one, Nat.zero_add, Nat.add_zero, Option.isNone_none, Option.isNone_some]; try rfl) ((hR _ (B6.low.skip 8)).mono ?_))))
  rintro _ s7 ⟨rfl, l67'⟩
  have l67 : Low s6.next s6 s7 := ((Low.self s6).skip 8).trans (l67'.weak (by rw [next_skip]; omega))
  have n67 : s6.next + 8 ≤ s7.next := by
    have := l67'.2.1
    rw [next_skip] at this
    exact this
  have B7 := B6.go l67
  have C7 := C6.go l67
  refine Wo_run (l := [_, _, _]) (by simp only [sim, if_true, if_false, eq_self, Bool.false_eq_true, decide_true, decide_false, Int.reduceEq, Bool.not_true, Bool.not_false, Nat.reduceEqDiff, Nat.mul_one, Nat.zero_add, Nat.add_zero, Option.isNone_none, Option.isNone_some, nth0, nth1]; rfl) ?_
  refine Wo_alloc (lo := s.next) (s0 := s) B7.low (by omega) (by omega) (fun s8 D8 hn8 hk8 => ?_)
  have B8 := B7.same hn8 hk8 (by have := B3.lt; omega) (by omega)
  have C8 := C7.same hn8 hk8 (by omega) (by omega)
  have l68 : Low s6.next s6 s8 := l67.same hn8 hk8 (by omega)
  obtain ⟨s9, p9, D9, hn9, hk9⟩ := D8.put (o := 0) (vs := rightsC o' g' fo' fg' fa' b') (by show 0 + 6 ≤ 6; decide)
  rw [len6' _ _ _ _ _ _ _ rfl] at D9
  have B9 := B8.same hn9 hk9 (by have := B3.lt; omega) (by omega)
  have C9 := C8.same hn9 hk9 (by omega) (by omega)
  have l69 : Low s6.next s6 s9 := l68.same hn9 hk9 (by omega)
  refine Wo_all (by simp only [sim, if_true, if_false, eq_self, Bool.false_eq_true, decide_true, decide_false, Int.reduceEq, Bool.not_true, Bool.not_false, Nat.reduceEqDiff, Nat.mul_one, Nat.zero_add, Nat.add_zero, Option.isNone_none, Option.isNone_some, len6, p9]; rfl) ?_
  have l39 : Low s3.next s3 s9 := l36.trans (l69.weak (by omega))
  have X9 := X3.low l39 l23.2.1
  have Y9 := Y3.low l39 (Nat.le_refl _)
  -- the same
  refine W_seq (W_seq (W_region (by simp only [sim, if_true, if_false, eq_self, Bool.false_eq_true, decide_true, decide_false, Int.reduceEq, Bool.not_true, Bool.not_false, Nat.reduceEqDiff, Nat.mul_one, Nat.zero_add, Nat.add_zero, Option.isNone_none, Option.isNone_some, X9.elems, Y9.elems, optByte_of, C9.row (n := 6) rfl, D9.row (n := 6) rfl, len6, eqR]; rfl) (W_else (by simp only [sim, if_true, if_false, eq_self, Bool.false_eq_true, decide_true, decide_false, Int.reduceEq, Bool.not_true, Bool.not_false, Nat.reduceEqDiff, Nat.mul_one, Nat.zero_add, Nat.add_zero, Option.isNone_none, Option.isNone_some]) (W_skip ?_))))
  -- and back
  have last : ∀ (fr : Fr) (t : St), W E (.seq (.many 0 (⟨(some 69), .callF 8 [], none, 0, []⟩ :: ([⟨(some 4), .mov (.t 69), none, 1, []⟩]))) .ret) fr t fun e fr s' => isExit e = false ∧ ∃ l, optL (oneRes fr s') [.tmp 4] = some l ∧ tupled l = .bool true := by
    intro fr t
    have hp : pTrue [] t = some (.bool true, t) := rfl
    refine W_seq (W_opsM (Wo_all (by simp only [sim, if_true, if_false, eq_self, Bool.false_eq_true, decide_true, decide_false, Int.reduceEq, Bool.not_true, Bool.not_false, Nat.reduceEqDiff, Nat.mul_one, Nat.zero_add, Nat.add_zero, Option.isNone_none, Option.isNone_some, pc_some hF, hp]; rfl) ?_))
    exact W_ret ⟨rfl, _, res_tmp res_nil, by simp only [sim, if_true, if_false, eq_self, Bool.false_eq_true, decide_true, decide_false, Int.reduceEq, Bool.not_true, Bool.not_false, Nat.reduceEqDiff, Nat.mul_one, Nat.zero_add, Nat.add_zero, Option.isNone_none, Option.isNone_some, tupled]⟩
  by_cases hok : okR o g fo fg fa
  case neg =>
    have e1 : putE o g fo fg fa = 2 := by unfold putE; rw [if_neg hok]
    refine W_seq (W_seq (W_region (by simp only [sim, if_true, if_false, eq_self, Bool.false_eq_true, decide_true, decide_false, Int.reduceEq, Bool.not_true, Bool.not_false, Nat.reduceEqDiff, Nat.mul_one, Nat.zero_add, Nat.add_zero, Option.isNone_none, Option.isNone_some, e1]; rfl) (W_else (by simp only [sim, if_true, if_false, eq_self, Bool.false_eq_true, decide_true, decide_false, Int.reduceEq, Bool.not_true, Bool.not_false, Nat.reduceEqDiff, Nat.mul_one, Nat.zero_add, Nat.add_zero, Option.isNone_none, Option.isNone_some]) (W_skip ?_))))
    exact last _ _
  have e1 : putE o g fo fg fa = 0 := by unfold putE; rw [if_pos hok]
  have e2 : putB o g fo fg fa b = bytesR o g fo fg fa b := by unfold putB; rw [if_pos hok]
  rw [e2] at X9
  have hget2 : getRV (bytesR o g fo fg fa b) = .tuple ⟨[.agg ⟨rightsC o g fo fg fa b⟩, .int .i64 0]⟩ := by
    unfold getRV
    rw [getR_bytesR hok]
  have hbl : (bytesR o g fo fg fa b).length = 12 := by
    unfold bytesR
    simp [beB_length]
  refine W_seq (W_seq (W_region (by simp only [sim, if_true, if_false, eq_self, Bool.false_eq_true, decide_true, decide_false, Int.reduceEq, Bool.not_true, Bool.not_false, Nat.reduceEqDiff, Nat.mul_one, Nat.zero_add, Nat.add_zero, Option.isNone_none, Option.isNone_some, e1]; rfl) (W_then (by simp only [sim, if_true, if_false, eq_self, Bool.false_eq_true, decide_true, decide_false, Int.reduceEq, Bool.not_true, Bool.not_false, Nat.reduceEqDiff, Nat.mul_one, Nat.zero_add, Nat.add_zero, Option.isNone_none, Option.isNone_some]) ?_)))
  have n93 : s3.next ≤ s9.next := l39.2.1
  refine W_seq (W_opsM (Wo_run (by simp only [sim, if_true, if_false, eq_self, Bool.false_eq_true, decide_true, decide_false, Int.reduceEq, Bool.not_true, Bool.not_false, Nat.reduceEqDiff, Nat.mul_one, Nat.zero_add, Nat.add_zero, Option.isNone_none, Option.isNone_some]; rfl) (Wo_call hC.server_GetRights.prim (by simp only [sim, if_true, if_false, eq_self, Bool.false_eq_true, decide_true, decide_false, Int.reduceEq, Bool.not_true, Bool.not_false, Nat.reduceEqDiff, Nat.mul_one, Nat.zero_add, Nat.add_zero, Option.isNone_none, Option.isNone_some]; try rfl) ((GetRights_run hC hC.server_GetRights (hi := s2.next) (by rw [next_skip]; have := l23.2.1; omega) (X9.low ((Low.self s9).skip 8) (by have := l23.2.1; omega)) (by rw [hbl]; decide)).mono ?_))))
  rintro _ s10 ⟨rfl, l910'⟩
  rw [hget2]
  have l910 : Low s9.next s9 s10 := ((Low.self s9).skip 8).trans (l910'.weak (by rw [next_skip]; omega))
  have n910 : s9.next + 8 ≤ s10.next := by
    have := l910'.2.1
    rw [next_skip] at this
    exact this
  have B10 := B9.go l910
  refine Wo_run (l := [_, _, _]) (by simp only [sim, if_true, if_false, eq_self, Bool.false_eq_true, decide_true, decide_false, Int.reduceEq, Bool.not_true, Bool.not_false, Nat.reduceEqDiff, Nat.mul_one, Nat.zero_add, Nat.add_zero, Option.isNone_none, Option.isNone_some, nth0, nth1]; rfl) ?_
  refine Wo_alloc (lo := s.next) (s0 := s) B10.low (by have := B3.low.2.1; omega) (by omega) (fun s11 F11 hn11 hk11 => ?_)
  have B11 := B10.same hn11 hk11 (by have := B9.lt; omega) (by have := B3.low.2.1; omega)
  obtain ⟨s12, p12, F12, hn12, hk12⟩ := F11.put (o := 0) (vs := rightsC o g fo fg fa b) (by show 0 + 6 ≤ 6; decide)
  rw [len6' _ _ _ _ _ _ _ rfl] at F12
  have B12 := B11.same hn12 hk12 (by have := B9.lt; omega) (by have := B3.low.2.1; omega)
  refine Wo_all (by simp only [sim, if_true, if_false, eq_self, Bool.false_eq_true, decide_true, decide_false, Int.reduceEq, Bool.not_true, Bool.not_false, Nat.reduceEqDiff, Nat.mul_one, Nat.zero_add, Nat.add_zero, Option.isNone_none, Option.isNone_some, len6, p12]; rfl) ?_
  refine W_seq (W_region (by simp only [sim, if_true, if_false, eq_self, Bool.false_eq_true, decide_true, decide_false, Int.reduceEq, Bool.not_true, Bool.not_false, Nat.reduceEqDiff, Nat.mul_one, Nat.zero_add, Nat.add_zero, Option.isNone_none, Option.isNone_some, F12.row (n := 6) rfl, B12.row (n := 6) rfl, len6, eqR]; rfl) (W_else (by simp only [sim, if_true, if_false, eq_self, Bool.false_eq_true, decide_true, decide_false, Int.reduceEq, Bool.not_true, Bool.not_false, Nat.reduceEqDiff, Nat.mul_one, Nat.zero_add, Nat.add_zero, Option.isNone_none, Option.isNone_some]) (W_skip ?_)))
  exact last _ _
end
end
end Go.Ev
