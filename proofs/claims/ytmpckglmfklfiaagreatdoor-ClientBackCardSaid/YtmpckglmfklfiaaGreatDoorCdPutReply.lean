/-
  The bytes of a reply, the program's side.
-/
import Derived.Test.YtmpckglmfklfiaaGreatDoorCdGetReply
set_option linter.unusedVariables false
set_option linter.unusedSimpArgs false
namespace Go.Ev
open Int renaming reduceEq → rI
open Nat renaming reduceEqDiff → rN
noncomputable section
def dirB (b : Bool) : UInt8 := if b then 1 else 0
def ItemC.bytes (i : ItemC) : List UInt8 := beB 4 i.id.toNat ++ (beB 4 i.parent.toNat ++ (dirB i.dir :: countB i.name))
def ItemC.ok (i : ItemC) : Prop := (0 ≤ i.id ∧ i.id < 4294967296) ∧ (0 ≤ i.parent ∧ i.parent < 4294967296) ∧ i.name.length ≤ 31
instance (i : ItemC) : Decidable i.ok := by unfold ItemC.ok; infer_instance
def ReplyC.bad (r : ReplyC) (data : List UInt8) (its : List ItemC) : Bool :=
  decide (r.err < 0) || (decide (65535 < r.err) || (!numberOk r.n || (decide ((65535 : Int) < (r.text.length : Nat)) || (decide ((300 : Int) < (data.length : Nat)) || decide ((20 : Int) < (its.length : Nat))))))
def ReplyC.ok (r : ReplyC) (data : List UInt8) (its : List ItemC) : Prop := r.bad data its = false ∧ ∀ i ∈ its, i.ok
instance (r : ReplyC) (data : List UInt8) (its : List ItemC) : Decidable (r.ok data its) := by unfold ReplyC.ok; infer_instance
def ReplyC.head (r : ReplyC) (data : List UInt8) (its : List ItemC) : List UInt8 :=
  beB 2 r.err.toNat ++ (numB r.n ++ ((beB 2 r.text.length ++ r.text) ++ ((beB 2 data.length ++ data) ++ [UInt8.ofNat its.length])))
def ReplyC.bytes (r : ReplyC) (data : List UInt8) (its : List ItemC) : List UInt8 := r.head data its ++ (its.map ItemC.bytes).flatten
theorem ItemC.bytes_length {i : ItemC} (h : i.ok) : i.bytes.length ≤ 50 := by
  have := h.2.2
  simp only [ItemC.bytes, countB, List.length_append, List.length_cons, beB_length]
  omega
theorem items_length : ∀ {l : List ItemC}, (∀ i ∈ l, i.ok) → (l.map ItemC.bytes).flatten.length ≤ 50 * l.length
  | [], _ => by simp
  | i :: l, h => by
    have h1 := ItemC.bytes_length (h i (by simp))
    have h2 := items_length (l := l) fun j hj => h j (List.mem_cons_of_mem _ hj)
    rw [List.map_cons, List.flatten_cons, List.length_append, List.length_cons]; omega
theorem itemsC_get {l : List ItemC} {i : Nat} (h : i < l.length) : ((itemsC l).drop (i * 4)).take 4 = (l[i]).cells := by
  induction l generalizing i with
  | nil => simp at h
  | cons x l ih =>
    cases i with
    | zero => rfl
    | succ i =>
      have : (i + 1) * 4 = 4 + i * 4 := by omega
      rw [this, ← List.drop_drop]
      exact ih (by simpa using h)
theorem Sl.same {s : St} {v : Value} {cs : List Value} {hi size : Nat} (h : Sl s hi size v cs) : same v v = true := by
  obtain ⟨p, n, c, rfl, _⟩ := h.parts
  exact same_slice h.spot
section
variable {E : Env} {f : FuncId} {s t : St} {v w u : Value}
theorem reply_loop (hC : Codes E) {its : List ItemC} {pre : List UInt8} (hits : its.length ≤ 20) (hpre : pre.length ≤ 70000) (hu : Sl s s.next 4 u (itemsC its)) {s0 : St} (l0 : Low s0.next s0 s) {fr : Fr} {y : Value}
    (f71 : fr.get 71 = some u) (f72 : fr.get 72 = some (.int .i64 (its.length : Nat))) (f73 : fr.get 73 = some (.int .i64 (0 : Nat))) (f6 : fr.get 6 = some y) (gy : Gr s s0.next 1 y (pre.map ofByte)) {Q : Ex → Fr → St → Prop}
    (hbad : ∀ fr t, ¬ (∀ i ∈ its, i.ok) → fr.get 2 = some (.slice none 0 0) → fr.get 3 = some (.int .i64 2) → Low s0.next s0 t → Q .ret fr t)
    (hok : ∀ fr t y, (∀ i ∈ its, i.ok) → fr.get 6 = some y → Gr t s0.next 1 y ((pre ++ (its.map ItemC.bytes).flatten).map ofByte) → Low s0.next s0 t → Q (.exit 0) fr t) : W E (.loop Code.client_PutReply_l0) fr s Q := by
  have hs0 : s0.next ≤ s.next := l0.2.1
  unfold Code.client_PutReply_l0
  refine W_for (n := its.length) (fun i fr t => Low s.next s t ∧ (∀ x ∈ its.take i, x.ok) ∧ fr.get 71 = some u ∧ ∃ y, fr.get 6 = some y ∧ Gr t s0.next 1 y ((pre ++ ((its.take i).map ItemC.bytes).flatten).map ofByte)) (by omega) (by decide) ?_ ?_ ?_ 0 (Nat.zero_le _)
    ⟨Low.self s, by simp, f71, y, f6, by simpa using gy⟩ f73 f72
  · rintro i fr t x v hx ⟨e0, e1, e2, y, e3, e4⟩
    refine ⟨e0, e1, ?_, y, ?_, e4⟩ <;> rcases hx with rfl | rfl | rfl <;> simp only [sims, rI, rN, e2, e3]
  · rintro i fr t hlt ⟨e0, e1, e2, y, e3, e4⟩ h73 h72
    have U := hu.low e0 (Nat.le_refl _)
    obtain ⟨p, m, c, rfl, hm⟩ := hu.parts
    have hm' : m = its.length := by rw [itemsC_length] at hm; omega
    subst hm'
    obtain ⟨a, rfl, hrow⟩ := U.row (i := i * 4) (k := 4) (by rw [itemsC_length]; omega) (by decide)
    rw [itemsC_get hlt] at hrow
    have hbl : Nat.blt i its.length = true := by rw [Nat.blt_eq]; exact hlt
    have hmem : its[i] ∈ its := List.getElem_mem hlt
    generalize hX : its[i] = X at hrow hmem
    have hl4 : Nat.beq (lenL X.cells) 4 = true := rfl
    refine W_seq (W_ops (Wo_run (l := [_, _]) (by simp only [sims, rI, rN, e2, h73, hbl, hrow]; rfl) (Wo_alloc (lo := t.next) (s0 := t) ((Low.self t).skip 4) (Nat.le_add_right _ _) (by rw [next_skip]; omega) fun t1 B1 n1 _ => ?_)))
    rw [next_skip] at n1
    obtain ⟨t2, p2, B2, n2, f2⟩ := B1.put (o := 0) (vs := X.cells) (Nat.le_refl _)
    have B2 : Boxed t.next t t2 (t.next + 2) X.cells := B2
    refine Wo_all (by simp only [sims, rI, rN, hl4, p2]; rfl) ?_
    have cell : ∀ {z : St} {j : Nat} {v : Value}, Boxed t.next t z (t.next + 2) X.cells → X.cells[j]? = some v → z.cell ⟨t.next + 2, j, none⟩ = some v := fun h e => h.cell.trans e
    have nth0 : ∀ (x y : Value), nthL [x, y] 0 = some x := fun _ _ => rfl
    have nth1 : ∀ (x y : Value), nthL [x, y] 1 = some y := fun _ _ => rfl
    have two32 : (2 : Int) ^ (8 * 4) = 4294967296 := by decide
    have d0 : t2.cell ⟨t.next + 2, 0, none⟩ = some (.int .i64 X.id) := cell B2 rfl
    refine W_seq (W_opsM (Wo_run (by simp only [sims, rI, rN, d0]; rfl) (Wo_call hC.octet_Put.prim (args := [.int .i64 (4 : Nat), .int .i64 X.id]) (by simp only [sims, rI, rN]; try rfl) ((Put_run hC hC.octet_Put (n := 4) (by decide) X.id).mono ?_))))
    intro r3 t3 hr3
    rw [two32] at hr3
    obtain ⟨x1, k1, rfl, hx1, l3⟩ : ∃ (x1 : Value) (k1 : Int), r3 = .tuple ⟨[x1, .int .i64 k1]⟩ ∧ ((k1 = 0 ∧ (0 ≤ X.id ∧ X.id < 4294967296) ∧ Gr t3 t2.next 1 x1 ((beB 4 X.id.toNat).map ofByte)) ∨ (k1 = 2 ∧ ¬ (0 ≤ X.id ∧ X.id < 4294967296))) ∧ Low t2.next t2 t3 := by
      rcases hr3 with ⟨a1, a2, x, rfl, a3, a4⟩ | ⟨a1, rfl, rfl⟩
      · exact ⟨x, 0, rfl, .inl ⟨rfl, ⟨a1, a2⟩, a3⟩, a4⟩
      · exact ⟨_, 2, rfl, .inr ⟨rfl, a1⟩, Low.self _⟩
    refine Wo_all (by simp only [sims, rI, rN, nth0, nth1]; rfl) ?_
    have B3 := B2.go l3
    have d1 : t3.cell ⟨t.next + 2, 1, none⟩ = some (.int .i64 X.parent) := cell B3 rfl
    refine W_seq (W_opsM (Wo_run (by simp only [sims, rI, rN, d1]; rfl) (Wo_call hC.octet_Put.prim (args := [.int .i64 (4 : Nat), .int .i64 X.parent]) (by simp only [sims, rI, rN]; try rfl) ((Put_run hC hC.octet_Put (n := 4) (by decide) X.parent).mono ?_))))
    intro r4 t4 hr4
    rw [two32] at hr4
    obtain ⟨x2, k2, rfl, hx2, l4⟩ : ∃ (x1 : Value) (k1 : Int), r4 = .tuple ⟨[x1, .int .i64 k1]⟩ ∧ ((k1 = 0 ∧ (0 ≤ X.parent ∧ X.parent < 4294967296) ∧ Gr t4 t3.next 1 x1 ((beB 4 X.parent.toNat).map ofByte)) ∨ (k1 = 2 ∧ ¬ (0 ≤ X.parent ∧ X.parent < 4294967296))) ∧ Low t3.next t3 t4 := by
      rcases hr4 with ⟨a1, a2, x, rfl, a3, a4⟩ | ⟨a1, rfl, rfl⟩
      · exact ⟨x, 0, rfl, .inl ⟨rfl, ⟨a1, a2⟩, a3⟩, a4⟩
      · exact ⟨_, 2, rfl, .inr ⟨rfl, a1⟩, Low.self _⟩
    refine Wo_all (by simp only [sims, rI, rN, nth0, nth1]; rfl) ?_
    have B4 := B3.go l4
    have d2 : t4.cell ⟨t.next + 2, 2, none⟩ = some (strOf X.name) := cell B4 rfl
    have L4 : Low s0.next s0 t4 := (l0.trans (e0.weak hs0)).trans (B4.low.weak (Nat.le_trans hs0 e0.2.1))
    refine W_gen (T := [(71, .slice (some a) its.length c), (6, y), (8, ptr (t.next + 2) 0), (9, x1), (10, .int .i64 k1), (11, x2), (12, .int .i64 k2), (73, .int .i64 (i : Nat)), (72, .int .i64 (its.length : Nat))])
      (all_cons (by simp only [sims, rI, rN, e2]) (all_cons (by simp only [sims, rI, rN, e3]) (all_cons (by simp only [sims, rI, rN]) (all_cons (by simp only [sims, rI, rN]) (all_cons (by simp only [sims, rI, rN]) (all_cons (by simp only [sims, rI, rN]) (all_cons (by simp only [sims, rI, rN]) (all_cons (by simp only [sims, rI, rN, h73]) (all_cons (by simp only [sims, rI, rN, h72]) all_nil))))))))) fun fr4 hf4 => ?_
    have m71 := hf4 _ (.head _)
    have m6 := hf4 _ (.tail _ (.head _))
    have m8 := hf4 _ (.tail _ (.tail _ (.head _)))
    have m9 := hf4 _ (.tail _ (.tail _ (.tail _ (.head _))))
    have m10 := hf4 _ (.tail _ (.tail _ (.tail _ (.tail _ (.head _)))))
    have m11 := hf4 _ (.tail _ (.tail _ (.tail _ (.tail _ (.tail _ (.head _))))))
    have m12 := hf4 _ (.tail _ (.tail _ (.tail _ (.tail _ (.tail _ (.tail _ (.head _)))))))
    have m73 := hf4 _ (.tail _ (.tail _ (.tail _ (.tail _ (.tail _ (.tail _ (.tail _ (.head _))))))))
    have m72 := hf4 _ (.tail _ (.tail _ (.tail _ (.tail _ (.tail _ (.tail _ (.tail _ (.tail _ (.head _)))))))))
    simp only at m71 m6 m8 m9 m10 m11 m12 m73 m72
    clear hf4
    have no : ∀ fr : Fr, ¬ X.ok → W E (.seq (.region 0 [⟨some 2, .mov (.c (.slice none 0 0)), none, 0, []⟩, ⟨some 3, .mov (.c (.int .i64 2)), none, 1, []⟩]) .ret) fr t4 fun e fr s => e = .ret ∧ Q .ret fr s := by
      intro fr h
      exact W_seq (W_region (by simp only [sims, rI, rN]; rfl) (W_ret ⟨rfl, hbad _ _ (fun h' => h (h' X hmem)) (by simp only [sims, rI, rN]) (by simp only [sims, rI, rN]) L4⟩))
    have no' : ∀ fr : Fr, ¬ X.ok → ∀ R : Ex → Fr → St → Prop, (∀ fr s, Q .ret fr s → R .ret fr s) → W E (.seq (.region 0 [⟨some 2, .mov (.c (.slice none 0 0)), none, 0, []⟩, ⟨some 3, .mov (.c (.int .i64 2)), none, 1, []⟩]) .ret) fr t4 R := fun fr h R hR => (no fr h).mono (by rintro _ fr s ⟨rfl, h⟩; exact hR _ _ h)
    rcases hx1 with ⟨rfl, i1, g1⟩ | ⟨rfl, i1⟩
    case inr =>
      refine W_seq (W_seq (W_region (by simp only [sims, rI, rN, m10, m12, m8]; rfl) (W_then (by simp only [sims, rI, rN]) ?_)))
      exact no' _ (fun h => i1 h.1) _ fun _ _ h => h
    rcases hx2 with ⟨rfl, i2, g2⟩ | ⟨rfl, i2⟩
    case inr =>
      refine W_seq (W_seq (W_region (by simp only [sims, rI, rN, m10, m12, m8]; rfl) (W_then (by simp only [sims, rI, rN]) ?_)))
      exact no' _ (fun h => i2 h.2.1) _ fun _ _ h => h
    by_cases i3 : X.name.length ≤ 31
    case neg =>
      have q3 : decide ((31 : Int) < (X.name.length : Nat)) = true := by simp; omega
      refine W_seq (W_seq (W_region (by simp only [sims, rI, rN, m10, m12, m8, d2, lenL_eq, Int.ofNat_eq_natCast, q3]; rfl) (W_then (by simp only [sims, rI, rN]) ?_)))
      exact no' _ (fun h => i3 h.2.2) _ fun _ _ h => h
    have hXok : X.ok := ⟨i1, i2, i3⟩
    have q3 : decide ((31 : Int) < (X.name.length : Nat)) = false := by simp; omega
    refine W_seq (W_seq (W_region (by simp only [sims, rI, rN, m10, m12, m8, d2, lenL_eq, Int.ofNat_eq_natCast, q3]; rfl) (W_else (by simp only [sims, rI, rN]) (W_skip ?_))))
    refine W_seq (W_region (by simp only [sims, rI, rN]; rfl) ?_)
    have d3 : t4.cell ⟨t.next + 2, 3, none⟩ = some (.bool X.dir) := cell B4 rfl
    refine W_seq (W_seq (W_region (by simp only [sims, rI, rN, m8, d3]; rfl) ?_))
    refine W.cut (P := fun e fr' s' => e = .normal ∧ s' = t4 ∧ fr'.get 13 = some (ofByte (dirB X.dir))) ?_ rfl ?_
    · refine W_ifb (q := X.dir) (by simp only [sims, rI, rN]) (fun h => W_region (by simp only [sims, rI, rN]; rfl) ⟨rfl, rfl, ?_⟩) (fun h => W_skip ⟨rfl, rfl, ?_⟩)
      · simp only [sims, rI, rN, h]; rfl
      · simp only [sims, rI, rN, h]; rfl
    rintro _ fr5 s5 ⟨rfl, hs5, n13⟩ hk
    rw [hs5]; clear hs5 s5
    have n71 := hk 71 (by decide)
    have n6 := hk 6 (by decide)
    have n8 := hk 8 (by decide)
    have n9 := hk 9 (by decide)
    have n11 := hk 11 (by decide)
    have n73 := hk 73 (by decide)
    have n72 := hk 72 (by decide)
    simp only [sims, rI, rN, m71, m6, m8, m9, m11, m73, m72] at n71 n6 n8 n9 n11 n73 n72
    clear hk
    show W E _ fr5 t4 _
    have l24 : Low t2.next t2 t4 := l3.trans (l4.weak l3.2.1)
    have n24 := l24.2.1
    have n4 := B4.low.2.1
    have hn4 : t.next + 4 ≤ t4.next := by omega
    have Y4 : Sl t4 t4.next 1 y _ := (e4.sl.low B4.low (Nat.le_refl _)).wide n4
    have X1 : Sl t4 t4.next 1 x1 _ := (g1.sl.low l4 (Nat.le_refl _)).wide l4.2.1
    have X2 : Sl t4 t4.next 1 x2 _ := g2.sl
    refine W_opsM (Wo_run (l := [_, _, _, _]) (by simp only [sims, rI, rN, n6, n9, n11, n13]; rfl) ?_)
    refine Wo_buildSlice (size := 1) (lo := t4.next) (cs := [ofByte (dirB X.dir)]) (by simp only [sims, rI, rN]; rfl) rfl (Nat.le_add_right _ _) (by rw [next_skip]; omega) (by decide) ?_
    rintro t5 ⟨D5, -⟩ g5 hs5
    have l5 : Low t4.next t4 t5 := ((Low.self t4).skip 11).trans g5
    have hn5 : t5.next = t4.next + 11 := by rw [hs5, St.next_set, next_skip]
    have B5 := B4.go l5
    have d2 : t5.cell ⟨t.next + 2, 2, none⟩ = some (strOf X.name) := cell B5 rfl
    refine Wo_run (l := [_, _]) (by simp only [sims, rI, rN, n8, d2]; rfl) ?_
    refine Wo_call hC.client_counted.prim (by simp only [sims, rI, rN]; try rfl) ((counted_run hC hC.client_counted i3).mono ?_)
    rintro r6 t6 ⟨g6, l6⟩
    have n6' := l6.2.1
    refine Wo_buildSlice (size := 1) (lo := t4.next) (cs := [y, x1, x2, .slice (some ⟨t4.next + 4, 0, none⟩) 1 1, r6]) (by simp only [sims, rI, rN, n13]; exact fill5 e4.cells g1.cells g2.cells ⟨rfl, rfl⟩ g6.cells) rfl (Nat.le_add_right _ _) (by omega) (by decide) ?_
    rintro t7 ⟨S7, -⟩ g7 hs7
    have K7 : But (t4.next + 8) t6 t7 := by rw [hs7]; exact but_put rfl fun b hb => St.get_set_ne _ _ (Ne.symm hb)
    have hn7 : t7.next = t6.next := by rw [hs7, St.next_set]
    have l46 : Low t4.next t4 t6 := l5.trans (l6.weak l5.2.1)
    have l47 : Low t4.next t4 t7 := l46.trans g7
    refine Wo_call hC.slices_Concat_byte_byte.prim (by simp only [sims, rI, rN]; try rfl) ((Concat_run hC hC.slices_Concat_byte_byte (hi := t7.next) (ls := [pre ++ ((its.take i).map ItemC.bytes).flatten, beB 4 X.id.toNat, beB 4 X.parent.toNat, [dirB X.dir], countB X.name]) (Nat.le_refl _) (S7.wide (by omega)) rfl ?_ ?_ (by show 5 ≤ 1000000; decide)).mono ?_)
    · intro j x m hx hm
      match j, hx, hm with
      | 0, hx, hm => cases hx; cases hm; exact (Y4.low l47 (Nat.le_refl _)).wide (by omega)
      | 1, hx, hm => cases hx; cases hm; exact (X1.low l47 (Nat.le_refl _)).wide (by omega)
      | 2, hx, hm => cases hx; cases hm; exact (X2.low l47 (Nat.le_refl _)).wide (by omega)
      | 3, hx, hm => cases hx; cases hm; exact ((D5.low l6 (by omega)).but K7 (by omega) (by omega)).wide (by omega)
      | 4, hx, hm => cases hx; cases hm; exact (g6.but K7 (by omega)).sl
      | n + 5, hx, hm => cases hx
    · have h1 := items_length e1
      rw [List.length_take] at h1
      simp only [List.flatten_cons, List.flatten_nil, List.length_append, List.length_cons, List.length_nil, beB_length, countB]
      omega
    rintro y' t8 ⟨g8, l8⟩
    refine Wo_all (by simp only [sims, rI, rN]; rfl) ?_
    have hfin : [pre ++ ((its.take i).map ItemC.bytes).flatten, beB 4 X.id.toNat, beB 4 X.parent.toNat, [dirB X.dir], countB X.name].flatten = pre ++ ((its.take (i + 1)).map ItemC.bytes).flatten := by
      rw [List.take_succ_eq_append_getElem hlt, hX]
      simp [ItemC.bytes]
    rw [hfin] at g8
    have l48 : Low t4.next t4 t8 := l47.trans (l8.weak l47.2.1)
    refine ⟨⟨(e0.trans (B4.low.weak e0.2.1)).trans (l48.weak (Nat.le_trans e0.2.1 n4)), ?_, by simp only [sims, rI, rN, n71], y', by simp only [sims, rI, rN], g8.weak (Nat.le_trans hs0 (Nat.le_trans e0.2.1 (Nat.le_trans n4 l47.2.1)))⟩, by simp only [sims, rI, rN, n73], by simp only [sims, rI, rN, n72]⟩
    intro z hz
    rw [List.take_succ_eq_append_getElem hlt, hX, List.mem_append, List.mem_singleton] at hz
    rcases hz with hz | rfl
    · exact e1 z hz
    · exact hXok
  · rintro fr t ⟨e0, e1, e2, y, e3, e4⟩
    rw [List.take_length] at e1 e4
    exact hok _ _ y e1 e3 e4 (l0.trans (e0.weak hs0))
set_option maxHeartbeats 2000000 in
theorem PutReply_run (hC : Codes E) (hf : Has E f Code.client_PutReply) {y : ReplyC} {l : List UInt8} {its : List ItemC} (hw : Sl s s.next 1 w (l.map ofByte)) (hu : Sl s s.next 4 u (itemsC its)) (hroom : y.text.length ≤ room) :
    Cv E f [.agg ⟨y.cells w u⟩] s fun r s' => Low s.next s s' ∧ ((y.ok l its ∧ ∃ x, r = .tuple ⟨[x, .int .i64 0]⟩ ∧ Gr s' s.next 1 x ((y.bytes l its).map ofByte)) ∨ (¬ y.ok l its ∧ r = .tuple ⟨[.slice none 0 0, .int .i64 2]⟩)) := by
  have samew := hw.same
  have sameu := hu.same
  obtain ⟨pw, mw, cw, rfl, hmw⟩ := hw.parts
  obtain ⟨pu, mu, cu, rfl, hmu⟩ := hu.parts
  have hmw' : mw = l.length := by rw [List.length_map] at hmw; omega
  have hmu' : mu = its.length := by rw [itemsC_length] at hmu; omega
  subst hmw' hmu'
  refine Cv_of hf.code ?_
  have h0 : (Tr.ofList (.e : Fr) 0 [.agg ⟨y.cells (.slice pw l.length cw) (.slice pu its.length cu)⟩]).get 0 = some (.agg ⟨y.cells (.slice pw l.length cw) (.slice pu its.length cu)⟩) := rfl
  generalize (Tr.ofList (.e : Fr) 0 [.agg ⟨y.cells (.slice pw l.length cw) (.slice pu its.length cu)⟩]) = fr0 at h0
  unfold Code.client_PutReply
  have nth0 : ∀ (x y : Value), nthL [x, y] 0 = some x := fun _ _ => rfl
  have nth1 : ∀ (x y : Value), nthL [x, y] 1 = some y := fun _ _ => rfl
  refine W_seq (W_ops (Wo_box (lo := s.next) (s0 := s) (z := y.cells (.slice pw l.length cw) (.slice pu its.length cu)) (by simp only [sims, rI, rN, h0]; rfl) rfl rfl ((Low.self s).skip 3) (Nat.le_add_right _ _) (by rw [next_skip]; omega) fun s1 B1 hn1 _ => Wo_all (by simp only [sims, rI, rN]; rfl) ?_))
  rw [Nat.add_zero] at B1
  rw [next_skip] at hn1
  have cell : ∀ {t : St} {i : Nat} {v : Value}, Boxed s.next s t s.next (y.cells (.slice pw l.length cw) (.slice pu its.length cu)) → (y.cells (.slice pw l.length cw) (.slice pu its.length cu))[i]? = some v → t.cell ⟨s.next, i, none⟩ = some v := fun h e => h.cell.trans e
  have d0 : s1.cell ⟨s.next, 0, none⟩ = some (.int .i64 y.err) := cell B1 rfl
  have d1 : s1.cell ⟨s.next, 1, none⟩ = some (.int .i64 y.n) := cell B1 rfl
  have d2 : s1.cell ⟨s.next, 2, none⟩ = some (strOf y.text) := cell B1 rfl
  have d3 : s1.cell ⟨s.next, 3, none⟩ = some (.slice pw l.length cw) := cell B1 rfl
  have d4 : s1.cell ⟨s.next, 4, none⟩ = some (.slice pu its.length cu) := cell B1 rfl
  refine W_seq (W_seq (W.cut (P := fun e fr' s' => e = .normal ∧ s' = s1 ∧ fr'.get 45 = some (.bool (y.bad l its))) ?_ rfl ?_))
  · unfold ReplyC.bad
    have call : ∀ g, Has E g Code.client_isNumber → ∀ fr : Fr, ∀ (ops : List COper) (b : Nat) (Q : Fr → St → Prop), fr.get 24 = some (.int .i64 y.n) → Wo E b ops (fr.set 25 (.bool (numberOk y.n))) s1 Q → Wo E b (⟨some 25, .callF g [.t 24], none, 11, []⟩ :: ops) fr s1 Q := by
      intro f' hg fr ops b Q g h
      refine Wo_call hg.prim (by simp only [sims, rI, rN, g]; try rfl) ((isNumber_run hg y.n).mono ?_)
      rintro _ _ ⟨rfl, hs⟩
      rw [hs]
      exact h
    cases q0 : decide (y.err < 0) with
    | true => exact W_opsM (Wo_run (by simp only [sims, rI, rN, d0, q0]; rfl) (Wo_gf (by simp only [sims, rI, rN]) (Wo_all (by simp only [sims, rI, rN]; rfl) ⟨rfl, rfl, by simp only [sims, rI, rN]; rfl⟩)))
    | false =>
    cases q1 : decide (65535 < y.err) with
    | true => exact W_opsM (Wo_run (by simp only [sims, rI, rN, d0, q0, q1]; rfl) (Wo_gf (by simp only [sims, rI, rN]) (Wo_all (by simp only [sims, rI, rN]; rfl) ⟨rfl, rfl, by simp only [sims, rI, rN]; rfl⟩)))
    | false =>
    refine W_opsM (Wo_run (by simp only [sims, rI, rN, d0, d1, q0, q1]; rfl) (Wo_gt (by simp only [sims, rI, rN]) (call _ hC.client_isNumber _ _ _ _ (by simp only [sims, rI, rN]) ?_)))
    refine Wo_gen (T := [(22, .bool false), (25, .bool (numberOk y.n)), (1, ptr s.next 0)]) (all_cons (by simp only [sims, rI, rN]) (all_cons (by simp only [sims, rI, rN]) (all_cons (by simp only [sims, rI, rN]) all_nil))) fun fr6 h6 => ?_
    have h22 := h6 _ (.head _)
    have h25 := h6 _ (.tail _ (.head _))
    have h1 := h6 _ (.tail _ (.tail _ (.head _)))
    simp only at h22 h25 h1
    clear h6
    generalize numberOk y.n = q2 at h25
    cases q2 <;> cases q3 : decide ((65535 : Int) < (y.text.length : Nat)) <;> cases q4 : decide ((300 : Int) < (l.length : Nat)) <;> cases q5 : decide ((20 : Int) < (its.length : Nat)) <;>
      exact Wo_all (by simp only [sims, rI, rN, h22, h25, h1, d2, d3, d4, lenL_eq, Int.ofNat_eq_natCast, q3, q4, q5]; rfl) ⟨rfl, rfl, by simp only [sims, rI, rN]; rfl⟩
  rintro e fr4 s4 ⟨rfl, hs4, h45⟩ hk
  rw [hs4]; clear hs4 s4
  have k1 := hk 1 (by decide)
  simp only [sims, rI, rN] at k1
  clear hk
  show W E _ fr4 s1 _
  cases hbad : y.bad l its with
  | true =>
    rw [hbad] at h45
    refine W_then (by simp only [sims, rI, rN, h45]) ?_
    exact W_seq (W_region (by simp only [sims, rI, rN]; rfl) (W_ret ⟨rfl, _, res_tmp (res_tmp res_nil), B1.low, .inr ⟨fun h => absurd (h.1.symm.trans hbad) Bool.false_ne_true, by simp only [sims, rI, rN, tupled]⟩⟩))
  | false =>
  rw [hbad] at h45
  refine W_else (by simp only [sims, rI, rN, h45]) (W_skip ?_)
  obtain ⟨b0, b1, b2, b3, b4, b5⟩ : 0 ≤ y.err ∧ y.err ≤ 65535 ∧ numberOk y.n = true ∧ y.text.length ≤ 65535 ∧ l.length ≤ 300 ∧ its.length ≤ 20 := by
    have h := hbad
    unfold ReplyC.bad at h
    simp only [Bool.or_eq_false_iff, decide_eq_false_iff_not, Bool.not_eq_false'] at h
    refine ⟨by omega, by omega, h.2.2.1, by omega, by omega, by omega⟩
  have b2' : -2147483648 ≤ y.n ∧ y.n < 2147483648 := by simpa [numberOk] using b2
  have two16 : (2 : Int) ^ (8 * 2) = 65536 := by decide
  refine W_seq (W_opsM (Wo_run (by simp only [sims, rI, rN, k1, d0]; rfl) (Wo_call hC.octet_Put.prim (args := [.int .i64 (2 : Nat), .int .i64 y.err]) (by simp only [sims, rI, rN]; try rfl) ((Put_run hC hC.octet_Put (n := 2) (by decide) y.err).mono ?_))))
  intro r2 s2 hr2
  rw [two16] at hr2
  rcases hr2 with ⟨-, -, x4, rfl, g4, l2⟩ | ⟨a1, _⟩
  case inr => exact absurd ⟨b0, by omega⟩ a1
  refine Wo_all (by simp only [sims, rI, rN, nth0, nth1]; rfl) ?_
  have B2 := B1.go l2
  have n2 := l2.2.1
  have e1 : s2.cell ⟨s.next, 1, none⟩ = some (.int .i64 y.n) := cell B2 rfl
  have e2 : s2.cell ⟨s.next, 2, none⟩ = some (strOf y.text) := cell B2 rfl
  have e3 : s2.cell ⟨s.next, 3, none⟩ = some (.slice pw l.length cw) := cell B2 rfl
  have e4 : s2.cell ⟨s.next, 4, none⟩ = some (.slice pu its.length cu) := cell B2 rfl
  have e5 : wr .u8 ((its.length : Nat) : Int) = ((its.length : Nat) : Int) := by rw [wr_u8_nat, Nat.mod_eq_of_lt (by omega)]
  refine W_seq (W_ops (Wo_run (by simp only [sims, rI, rN, k1, e1, e2, e3, e4, e5, lenL_eq, Int.ofNat_eq_natCast]; rfl) ?_))
  refine Wo_gen (T := [(1, ptr s.next 0), (52, x4), (54, .int .i64 y.n), (56, .pointer (some ⟨s.next, 2, none⟩)), (57, strOf y.text), (60, .pointer (some ⟨s.next, 3, none⟩)), (61, .slice pw l.length cw), (63, .pointer (some ⟨s.next, 4, none⟩)), (64, .slice pu its.length cu), (66, .int .u8 (its.length : Nat))])
    (all_cons (by simp only [sims, rI, rN, k1]) (all_cons (by simp only [sims, rI, rN]) (all_cons (by simp only [sims, rI, rN]) (all_cons (by simp only [sims, rI, rN]) (all_cons (by simp only [sims, rI, rN]) (all_cons (by simp only [sims, rI, rN]) (all_cons (by simp only [sims, rI, rN]) (all_cons (by simp only [sims, rI, rN]) (all_cons (by simp only [sims, rI, rN]) (all_cons (by simp only [sims, rI, rN]) all_nil)))))))))) fun fr7 h7 => ?_
  have f1 := h7 _ (.head _)
  have f52 := h7 _ (.tail _ (.head _))
  have f54 := h7 _ (.tail _ (.tail _ (.head _)))
  have f56 := h7 _ (.tail _ (.tail _ (.tail _ (.head _))))
  have f57 := h7 _ (.tail _ (.tail _ (.tail _ (.tail _ (.head _)))))
  have f60 := h7 _ (.tail _ (.tail _ (.tail _ (.tail _ (.tail _ (.head _))))))
  have f61 := h7 _ (.tail _ (.tail _ (.tail _ (.tail _ (.tail _ (.tail _ (.head _)))))))
  have f63 := h7 _ (.tail _ (.tail _ (.tail _ (.tail _ (.tail _ (.tail _ (.tail _ (.head _))))))))
  have f64 := h7 _ (.tail _ (.tail _ (.tail _ (.tail _ (.tail _ (.tail _ (.tail _ (.tail _ (.head _)))))))))
  have f66 := h7 _ (.tail _ (.tail _ (.tail _ (.tail _ (.tail _ (.tail _ (.tail _ (.tail _ (.tail _ (.head _))))))))))
  clear h7
  simp only at f1 f52 f54 f56 f57 f60 f61 f63 f64 f66
  have a64 : ∀ (t : St) (fr : Fr), Boxed s.next s t s.next (y.cells (.slice pw l.length cw) (.slice pu its.length cu)) → fr.get 63 = some (.pointer (some ⟨s.next, 4, none⟩)) → fr.get 64 = some (.slice pu its.length cu) → againOk fr t [(some 64, .load1 (.t 63), none)] = true := fun t fr h a1 a2 => again_load1 a1 (cell h rfl) a2 sameu again_nil
  have a61 : ∀ (t : St) (fr : Fr), Boxed s.next s t s.next (y.cells (.slice pw l.length cw) (.slice pu its.length cu)) → fr.get 63 = some (.pointer (some ⟨s.next, 4, none⟩)) → fr.get 64 = some (.slice pu its.length cu) → fr.get 60 = some (.pointer (some ⟨s.next, 3, none⟩)) → fr.get 61 = some (.slice pw l.length cw) → againOk fr t [(some 61, .load1 (.t 60), none), (some 64, .load1 (.t 63), none)] = true := fun t fr h a1 a2 a3 a4 => again_load1 a3 (cell h rfl) a4 samew (a64 t fr h a1 a2)
  have l3 : Low s2.next s2 (s2.skip 19) := (Low.self s2).skip 19
  have hn3 := next_skip s2 19
  generalize s2.skip 19 = s3 at l3 hn3
  have B3 := B2.go l3
  refine Wo_callA hC.client_number.prim (by simp only [sims, rI, rN, f54]; try rfl) ((number_run hC hC.client_number b2'.1 b2'.2).mono ?_)
  rintro x55 s5 ⟨g5, l5⟩
  have B5 := B3.go l5
  refine ⟨again_load1 f56 (cell (i := 2) B5 rfl) f57 (same_str _) (a61 s5 fr7 B5 f63 f64 f60 f61), ?_⟩
  have n5 := l5.2.1
  refine Wo_convSB (lo := s2.next) (l := y.text) (by simp only [sims, rI, rN, f57]) (by unfold room; omega) (Nat.le_add_right _ _) (by omega) ?_
  intro s6 g6 l6 hs6
  have K6 : But (s2.next + 6) s5 s6 := by rw [hs6]; exact but_put rfl fun b hb => St.get_set_ne _ _ (Ne.symm hb)
  have hn6 : s6.next = s5.next := by rw [hs6, St.next_set]
  have B6 : Boxed s.next s s6 s.next _ := B5.next l6 B2.lt B2.low.2.1
  refine Wo_callA hC.client_long.prim (by simp only [sims, rI, rN]; try rfl) ((long_run hC hC.client_long (Nat.le_refl _) g6.sl b3).mono ?_)
  rintro x59 s7 ⟨g7, l7⟩
  have B7 := B6.go l7
  refine ⟨a61 s7 _ B7 (by simp only [sims, rI, rN, f63]) (by simp only [sims, rI, rN, f64]) (by simp only [sims, rI, rN, f60]) (by simp only [sims, rI, rN, f61]), ?_⟩
  have n7 := l7.2.1
  have l17 : Low s.next s s7 := B7.low
  refine Wo_callA hC.client_long.prim (by simp only [sims, rI, rN, f61]; try rfl) ((long_run hC hC.client_long (Nat.le_refl _) ((hw.low l17 (Nat.le_refl _)).wide l17.2.1) (by omega)).mono ?_)
  rintro x62 s8 ⟨g8, l8⟩
  have B8 := B7.go l8
  refine ⟨a64 s8 _ B8 (by simp only [sims, rI, rN, f63]) (by simp only [sims, rI, rN, f64]), ?_⟩
  have n8 := l8.2.1
  have hby : Value.int .u8 ((its.length : Nat) : Int) = ofByte (UInt8.ofNat its.length) := by rw [ofByte_ofNat, Nat.mod_eq_of_lt (by omega)]
  refine Wo_buildSlice (size := 1) (lo := s2.next) (cs := [ofByte (UInt8.ofNat its.length)]) (by simp only [sims, rI, rN, f66]; rw [hby]; rfl) rfl (Nat.le_add_right _ _) (by omega) (by decide) ?_
  rintro s9 ⟨D9, -⟩ l9 hs9
  have K9 : But (s2.next + 15) s8 s9 := by rw [hs9]; exact but_put rfl fun b hb => St.get_set_ne _ _ (Ne.symm hb)
  have hn9 : s9.next = s8.next := by rw [hs9, St.next_set]
  refine Wo_buildSlice (size := 1) (lo := s2.next) (cs := [x4, x55, x59, x62, .slice (some ⟨s2.next + 15, 0, none⟩) 1 1]) (by simp only [sims, rI, rN, f52]; exact fill5 g4.cells g5.cells g7.cells g8.cells ⟨rfl, rfl⟩) rfl (Nat.le_add_right _ _) (by omega) (by decide) ?_
  rintro s10 ⟨S10, -⟩ l10 hs10
  have K10 : But (s2.next + 16) s9 s10 := by rw [hs10]; exact but_put rfl fun b hb => St.get_set_ne _ _ (Ne.symm hb)
  have hn10 : s10.next = s9.next := by rw [hs10, St.next_set]
  have l28 : Low s2.next s2 s8 := (((l3.trans (l5.weak l3.2.1)).trans l6).trans (l7.weak (by omega))).trans (l8.weak (by omega))
  have l210 : Low s2.next s2 s10 := (l28.trans l9).trans l10
  refine Wo_call hC.slices_Concat_byte_byte.prim (by simp only [sims, rI, rN]; try rfl) ((Concat_run hC hC.slices_Concat_byte_byte (hi := s10.next) (ls := [beB 2 y.err.toNat, numB y.n, beB 2 y.text.length ++ y.text, beB 2 l.length ++ l, [UInt8.ofNat its.length]]) (Nat.le_refl _) (S10.wide (by omega)) rfl ?_ ?_ (by show 5 ≤ 1000000; decide)).mono ?_)
  · intro j x m hx hm
    match j, hx, hm with
    | 0, hx, hm => cases hx; cases hm; exact (g4.sl.low l210 (Nat.le_refl _)).wide (by omega)
    | 1, hx, hm => cases hx; cases hm; exact ((((((g5.but K6 (by omega)).low l7 (by omega)).low l8 (by omega)).but K9 (by omega)).but K10 (by omega))).sl
    | 2, hx, hm => cases hx; cases hm; exact (((g7.low l8 (Nat.le_refl _)).but K9 (by omega)).but K10 (by omega)).sl
    | 3, hx, hm => cases hx; cases hm; exact ((g8.but K9 (by omega)).but K10 (by omega)).sl
    | 4, hx, hm => cases hx; cases hm; exact (D9.but K10 (by omega) (by omega)).wide (by omega)
    | n + 5, hx, hm => cases hx
  · simp only [List.flatten_cons, List.flatten_nil, List.length_append, List.length_cons, List.length_nil, beB_length, numB]
    omega
  rintro x11 s11 ⟨g11, l11⟩
  have n11 := l11.2.1
  refine Wo_all (by simp only [sims, rI, rN]; rfl) ?_
  have hfin : [beB 2 y.err.toNat, numB y.n, beB 2 y.text.length ++ y.text, beB 2 l.length ++ l, [UInt8.ofNat its.length]].flatten = y.head l its := by
    simp [ReplyC.head]
  rw [hfin] at g11
  have l1_11 : Low s.next s s11 := (B2.low.trans (l210.weak B2.low.2.1)).trans (l11.weak (Nat.le_trans B2.low.2.1 l210.2.1))
  have B11 : Boxed s.next s s11 s.next _ := (B2.go l210).go l11
  have d4' : s11.cell ⟨s.next, 4, none⟩ = some (.slice pu its.length cu) := cell B11 rfl
  refine W_seq (W_seq (W_region (by simp only [sims, rI, rN, f1, d4', Int.ofNat_eq_natCast]; rfl) ?_))
  have hhead : (y.head l its).length ≤ 70000 := by
    simp only [ReplyC.head, numB, List.length_append, List.length_cons, List.length_nil, beB_length]
    omega
  refine W_block (reply_loop hC (its := its) (pre := y.head l its) b5 hhead ((hu.low l1_11 (Nat.le_refl _)).wide l1_11.2.1) l1_11 (u := .slice pu its.length cu) (by simp only [sims, rI, rN]) (by simp only [sims, rI, rN]) (by simp only [sims, rI, rN]; rfl) (by simp only [sims, rI, rN]) (g11.weak (Nat.le_trans B2.low.2.1 l210.2.1)) ?_ ?_)
  · intro fr t hno h2 h3 lt
    exact ⟨rfl, _, res_tmp (res_tmp res_nil), lt, .inr ⟨fun h => hno h.2, by rw [h2, h3]; rfl⟩⟩
  · intro fr t x hok h6 gx lt
    show W E _ _ _ _
    refine W_seq (W_region (by simp only [sims, rI, rN, h6]; rfl) (W_ret ⟨rfl, _, res_tmp (res_tmp res_nil), lt, .inl ⟨⟨hbad, hok⟩, x, by simp only [sims, rI, rN, tupled], gx⟩⟩))
end
end
end Go.Ev
