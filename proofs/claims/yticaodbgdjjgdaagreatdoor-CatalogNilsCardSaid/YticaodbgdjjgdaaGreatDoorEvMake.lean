/-
  Operations that make memory, or write it.
-/
import Derived.Test.YticaodbgdjjgdaaGreatDoorEvBuild
set_option linter.unusedVariables false
set_option linter.unusedSimpArgs false
namespace Go.Ev
open Go (Sem)

/-- The operation gives a value that stands for v, in a world that stands for s'. -/
def Does (P : Program) (S : Nat → Prop) (ι : Inj) (base : Nat) (s : St) (w : World) (m : Sem Next) (v : Value) (s' : St) : Prop :=
  ∃ κ nx w', m.run P w = .ok nx w' ∧ Ext S ι base s w κ s' w' ∧ ((∃ v', nx = .value v' ∧ VR κ v v') ∨ (nx = .skip ∧ v = undef))

section
variable {P : Program} {ι : Inj} {w : World} {base : Nat} {s : St} {o : Oper} {ρ : Operand → Value}

theorem Does.of {S : Nat → Prop} {m : Sem Next} {v v' : Value} {s' : St} {κ : Inj} {w' : World} (h1 : m.run P w = .ok (.value v') w') (h2 : Ext S ι base s w κ s' w') (h3 : VR κ v v') : Does P S ι base s w m v s' :=
  ⟨κ, _, w', h1, h2, .inl ⟨v', rfl, h3⟩⟩
theorem Does.skip {S : Nat → Prop} {m : Sem Next} {s' : St} {κ : Inj} {w' : World} (h1 : m.run P w = .ok .skip w') (h2 : Ext S ι base s w κ s' w') : Does P S ι base s w m undef s' :=
  ⟨κ, _, w', h1, h2, .inr ⟨rfl, rfl⟩⟩

theorem Ok.does {S : Nat → Prop} {m : Sem Next} {v : Value} (h : Ok P ι w m v) (r : Rel ι base s w) : Does P S ι base s w m v s := by
  obtain ⟨v', h1, h2⟩ := h
  exact ⟨ι, _, w, h1, Ext.refl r, .inl ⟨v', rfl, h2⟩⟩

theorem arr_get {α : Type} (L : List α) (i : Nat) : (⟨L⟩ : Array α)[i]? = L[i]? := (Array.getElem?_toList (xs := (⟨L⟩ : Array α))).symm

theorem cellsR_of {κ : Inj} {l : List Value} {m : List Value} {md : Md} {B : Blk} {fr : Nat × Nat} (hl : LR κ l m) (hs : ∀ x ∈ l, scal x) (hB : B.sh = 0) (hn : B.n = m.length) (hm : mdOk md B l.length fr) : cellsR κ l md B ⟨m⟩ fr := by
  refine ⟨by rw [hn]; rfl, by rw [hn, hB, hl.length]; omega, ?_, hm⟩
  intro i x hx
  obtain ⟨y, hy, hv⟩ := hl.some hx
  refine ⟨hs x (List.mem_of_getElem? hx), y, ?_, hv⟩
  rw [hB, Nat.zero_add, arr_get, hy]

theorem heap_push_get (w : World) (o : Obj) : (w.heap.push o)[w.heap.size]? = some o := by simp

theorem d_box (r : Rel ι base s w) {T : TypeId} {x : Operand} (ho : o.op = .box T x) {X : Value} (hx : VR ι X (ρ x)) (hs : storable X = true) {id : Nat} (h1 : id < s.next) (h2 : s.get id = none) (h3 : ι id = none) :
    Does P (· = id) ι base s w (execOp ρ o) (ptr id 0) (s.set id (.cells (vcells X) 0 .ex)) := by
  obtain ⟨g1, g2⟩ := hx.vcells hs
  have hle : ι.le (ι.put id ⟨w.heap.size, 0, (vcells (ρ x)).length, 0⟩) := Inj.le_put _ h3
  refine Does.of (κ := ι.put id ⟨w.heap.size, 0, (vcells (ρ x)).length, 0⟩) (v' := .pointer (some ⟨w.heap.size, 0, none⟩)) (w' := { w with heap := w.heap.push (.cells (ρ x).cells T) }) ?_ ?_ ?_
  rotate_left 1
  · refine Ext.new r id _ (.cells (ρ x).cells T) _ 0 h1 h2 h3 rfl rfl rfl rfl rfl ?_
    refine ⟨(ρ x).cells, T, (0, 0), heap_push_get w _, ?_, .zero (by intro h; cases h)⟩
    refine cellsR_of (m := vcells (ρ x)) (g1.mono hle) g2 rfl rfl ⟨rfl, g1.length, rfl⟩
  · exact .ptr (a' := ⟨w.heap.size, 0, none⟩) ⟨_, Inj.put_same _ _ _, rfl, rfl⟩
  · simp only [execOp, ho]
    exact run_v rfl

theorem d_alloc (r : Rel ι base s w) {T : TypeId} (ho : o.op = .alloc T) {z : Value} (hz : zeroOf P T = some z) {id : Nat} (h1 : id < s.next) (h2 : s.get id = none) (h3 : ι id = none) :
    Does P (· = id) ι base s w (execOp ρ o) (ptr id 0) (s.set id (.cells z.cells.toList (tag T 0) .ex)) := by
  obtain ⟨hz1, hz2⟩ := run_zeroValue (w := w) hz
  obtain ⟨g1, g2⟩ := plain_scal (ι := ι) hz2
  have hle : ι.le (ι.put id ⟨w.heap.size, 0, z.cells.toList.length, 0⟩) := Inj.le_put _ h3
  refine Does.of (κ := ι.put id ⟨w.heap.size, 0, z.cells.toList.length, 0⟩) (v' := .pointer (some ⟨w.heap.size, 0, none⟩)) (w' := { w with heap := w.heap.push (.cells z.cells T) }) ?_ ?_ ?_
  rotate_left 1
  · refine Ext.new r id _ (.cells z.cells T) _ 0 h1 h2 h3 rfl rfl rfl rfl rfl ?_
    refine ⟨z.cells, T, (0, 0), heap_push_get w _, ?_, ⟨fun h => by (cases h), .inr ⟨ety_tag (by decide), fun h => by (cases h), fun h => by (cases h)⟩⟩⟩
    exact cellsR_of (m := z.cells.toList) (g1.mono hle) g2 rfl rfl ⟨rfl, rfl, rfl⟩
  · exact .ptr (a' := ⟨w.heap.size, 0, none⟩) ⟨_, Inj.put_same _ _ _, rfl, rfl⟩
  · simp only [execOp, ho]
    refine run_v ?_
    unfold Instr.alloc
    rw [Sem.run_bind, hz1]
    rfl

theorem zeros_arr {z : Array Value} {n len : Nat} (hz : z.size = n) (hn : 0 < n) : ((Array.range (len * n)).map (z[· % z.size]!)) = ⟨(List.replicate len z.toList).flatten⟩ := by
  apply Array.ext'
  simp only [Array.toList_map, Array.toList_range]
  induction len with
  | zero => simp
  | succ k ih =>
    rw [List.replicate_succ', List.flatten_append, ← ih]
    simp only [List.flatten_cons, List.flatten_nil, List.append_nil]
    rw [show (k + 1) * n = k * n + n by rw [Nat.add_mul, Nat.one_mul], List.range_add, List.map_append]
    congr 1
    rw [List.map_map]
    apply List.ext_getElem?
    intro i
    by_cases hi : i < n
    · rw [List.getElem?_map, List.getElem?_range hi, Array.getElem?_toList]
      simp only [Option.map_some, Function.comp_def]
      have : (k * n + i) % z.size = i := by rw [hz, Nat.mul_comm, Nat.mul_add_mod, Nat.mod_eq_of_lt hi]
      rw [this, getElem!_pos z i (by omega), getElem?_pos z i (by omega)]
    · rw [List.getElem?_eq_none (by simp; omega), List.getElem?_eq_none (by simp; omega)]

theorem d_buildSlice (r : Rel ι base s w) {fr : Fr} {T E : TypeId} {len n : Nat} {ps : Array (Nat × Operand)} (ho : o.op = .buildSlice T len ps) (hT : P.underlying T = some (.slice E)) (hE : sizeOf? P E = some n) {z : Value} (hz : zeroOf P E = some z)
    (hsz : z.cells.size = n) (hn : 0 < n) (hle : len * n ≤ 4096) {qs : List (Nat × Nat × Arg)}
    (hp : PR (fun i => some (i * n, n)) ps.toList qs) (hv : ∀ p ∈ ps.toList, VR ι ((rArg p.2).ev fr) (ρ p.2)) {l : List Value} (h : fillL (evP fr qs) (List.replicate len z.cells.toList).flatten = some l)
    {id : Nat} (h1 : id < s.next) (h2 : s.get id = none) (h3 : ι id = none) :
    Does P (· = id) ι base s w (execOp ρ o) (.slice (some ⟨id, 0, none⟩) len len) (s.set id (.cells l 0 .ex)) := by
  obtain ⟨hz1, hz2⟩ := run_zeroValue (w := w) hz
  have hpl : (List.replicate len z.cells.toList).flatten.all plainC = true := by
    rw [List.all_eq_true]; intro x hx
    rw [List.mem_flatten] at hx
    obtain ⟨l, hl, hx⟩ := hx
    rw [List.mem_replicate] at hl
    rw [hl.2] at hx
    exact List.all_eq_true.1 hz2 x hx
  obtain ⟨l', f1, f2, f3, f4⟩ := fill_ok hp (LR.plain (ι := ι) hpl) (fun x hx => plainC_scal (List.all_eq_true.1 hpl x hx)) hv h
  have hle' : ι.le (ι.put id ⟨w.heap.size, 0, l'.length, 0⟩) := Inj.le_put _ h3
  have hlt : len < open_ := by
    have : len ≤ len * n := Nat.le_mul_of_pos_right _ hn
    have : (4096 : Nat) < open_ := by decide
    omega
  refine Does.of (κ := ι.put id ⟨w.heap.size, 0, l'.length, 0⟩) (v' := .slice (some ⟨w.heap.size, 0, none⟩) len len) (w' := { w with heap := w.heap.push (.cells ⟨l'⟩ E) }) ?_ ?_ ?_
  rotate_left 1
  · refine Ext.new r id _ (.cells ⟨l'⟩ E) _ 0 h1 h2 h3 rfl rfl rfl rfl rfl ?_
    refine ⟨⟨l'⟩, E, (0, 0), heap_push_get w _, ?_, .zero (by intro h; cases h)⟩
    exact cellsR_of (f2.mono hle') f3 rfl rfl ⟨rfl, f2.length, rfl⟩
  · exact .sl (a' := ⟨w.heap.size, 0, none⟩) ⟨_, Inj.put_same _ _ _, rfl, rfl⟩ hlt (Nat.le_refl _)
  · simp only [execOp, ho]
    refine run_v ?_
    have hps : (ps.map fun p => (p.1, ρ p.2)).toList = ps.toList.map fun p => (p.1, ρ p.2) := by simp
    show (Instr.buildSlice T len (ps.map fun p => (p.1, ρ p.2))).run P w = _
    unfold Instr.buildSlice
    rw [Sem.run_bind, run_underlying hT]
    simp only [Result.andThen]
    rw [Sem.run_bind, run_sizeOf hE]
    simp only [Result.andThen]
    have hno : ¬ (len * n > 2 ^ 24) := by omega
    simp only [hno, if_false]
    have hcells : ∀ zc : Array Value, zc = z.cells ∨ len * n = 0 → ((Array.range (len * n)).map (zc[· % zc.size]!)) = ⟨(List.replicate len z.cells.toList).flatten⟩ := by
      intro zc hzc
      rcases hzc with rfl | h0
      · exact zeros_arr hsz hn
      · have : len = 0 := by rcases Nat.mul_eq_zero.1 h0 with h | h <;> omega
        subst this; simp
    have fin : ∀ zc : Array Value, zc = z.cells ∨ len * n = 0 → (do
        let some cells := Instr.fill (fun i => some (i * n, n)) ((Array.range (len * n)).map (zc[· % zc.size]!)) (ps.map fun p => (p.1, ρ p.2)).toList
          | stuck "buildSlice: a part of the wrong size"
        pure (Value.slice (some (← newRow E cells)) len len) : Sem Value).run P w = .ok (.slice (some ⟨w.heap.size, 0, none⟩) len len) { w with heap := w.heap.push (.cells ⟨l'⟩ E) } := by
      intro zc hzc
      rw [hcells zc hzc, hps, f1]
      rfl
    by_cases h0 : len * n = 0
    · simp only [h0, if_true, Sem.run_bind, Sem.run_pure, Result.andThen]
      have := fin #[] (.inr h0)
      rw [h0] at this
      exact this
    · simp only [h0, if_false, Sem.run_bind, hz1, Sem.run_pure, Result.andThen]
      exact fin z.cells (.inl rfl)
end
end Go.Ev
