/-
  Reading: cells, rows of cells; slices; maps.
-/
import Derived.Test.YticaodbgdjjgdaaGreatDoorEvQuiet
set_option linter.unusedVariables false
set_option linter.unusedSimpArgs false
namespace Go.Ev
open Go (Sem)
section
variable {P : Program} {ι : Inj} {w : World} {base : Nat} {s : St} {o : Oper} {ρ : Operand → Value}

theorem cell?_of {w : World} {b o : Nat} {cs : Array Value} {T : TypeId} {fr : Nat × Nat} (h : w.heap[b]? = some (.cells cs T fr)) : w.cell? ⟨b, o, none⟩ = cs[o]? := by
  simp [World.cell?, h]
theorem asCells_eq {o : Option Ob} {c : List Value × TypeId × Md} (h : asCells o = some c) : o = some (.cells c.1 c.2.1 c.2.2) := by
  cases o with
  | none => cases h
  | some o =>
    cases o <;> simp only [asCells, ob_some, obCells] at h <;> cases h <;> rfl
theorem asEnts_eq {o : Option Ob} {c : List (Value × Value) × Nat} (h : asEnts o = some c) : o = some (.map c.1 c.2) := by
  cases o with
  | none => cases h
  | some o =>
    cases o <;> simp only [asEnts, ob_some, obEnts] at h <;> cases h <;> rfl

/-- What stands for a row of cells. -/
theorem Rel.cells (r : Rel ι base s w) {a : Nat} {cs : List Value} {es : Nat} {md : Md} (h : s.get a = some (.cells cs es md)) {B : Blk} (hB : ι a = some B) :
    ∃ cs' T fr, w.heap[B.b]? = some (.cells cs' T fr) ∧ cellsR ι cs md B cs' fr ∧ tyOk md es B T fr cs.length := by
  obtain ⟨C, h1, h2⟩ := r.ob a _ h rfl
  rw [hB] at h1; cases h1
  exact h2
theorem Rel.cell (r : Rel ι base s w) {a a' : Addr} (ha : AR ι a a') {v : Value} (h : s.cell a = some v) : ∃ v', w.cell? a' = some v' ∧ VR ι v v' ∧ scal v := by
  obtain ⟨c, h1, h2⟩ := ob_eq.1 h
  obtain ⟨B, hB, hs, rfl⟩ := ha
  obtain ⟨cs', T, fr, g1, ⟨g2, g3, g4, g5⟩, g6⟩ := r.cells (asCells_eq h1) hB
  rw [nthL_eq] at h2
  obtain ⟨f1, y, f2, f3⟩ := g4 _ _ h2
  exact ⟨y, by rw [cell?_of g1, f2], f3, f1⟩
theorem Rel.row (r : Rel ι base s w) {a a' : Addr} (ha : AR ι a a') {n : Nat} {l : List Value} (h : s.row a n = some l) :
    l.length = n ∧ (∀ x ∈ l, scal x) ∧ ∃ m : List Value, LR ι l m ∧ ∀ i, i < n → w.cell? (a'.add i) = m[i]? := by
  obtain ⟨c, h1, h2⟩ := ob_eq.1 h
  obtain ⟨h3, h2⟩ := must_eq.1 h2
  cases h2
  rw [Nat.ble_eq, lenL_eq] at h3
  obtain ⟨B, hB, hs, rfl⟩ := ha
  obtain ⟨cs', T, fr, g1, ⟨g2, g3, g4, g5⟩, g6⟩ := r.cells (asCells_eq h1) hB
  rw [takeL_eq, dropL_eq]
  have hget : ∀ (i : Nat), i < n → ((c.1.drop a.off).take n)[i]? = c.1[a.off + i]? := by
    intro i hi; rw [List.getElem?_take, if_pos hi, List.getElem?_drop]
  have hlen : ((c.1.drop a.off).take n).length = n := by simp; omega
  refine ⟨hlen, ?_, (List.range n).map (fun i => (cs'[B.sh + a.off + i]?).getD undef), ?_, ?_⟩
  · intro x hx
    obtain ⟨i, hi, rfl⟩ := List.mem_iff_getElem.1 hx
    have := hget i (by omega)
    rw [List.getElem?_eq_getElem hi] at this
    exact (g4 _ _ this.symm).1
  · refine LR.of (by simp [hlen]) ?_
    intro i x y hx hy
    have hi : i < n := by have := (List.getElem?_eq_some_iff.1 hx).1; omega
    rw [hget i hi] at hx
    obtain ⟨f1, z, f2, f3⟩ := g4 _ _ hx
    rw [List.getElem?_map, List.getElem?_range hi] at hy
    simp only [Option.map_some, Option.some.injEq] at hy
    rw [Nat.add_assoc, f2] at hy
    subst hy
    exact f3
  · intro i hi
    have e : (⟨B.b, B.sh + a.off, none⟩ : Addr).add i = ⟨B.b, B.sh + a.off + i, none⟩ := by
      unfold Addr.add; split
      · subst_vars; rfl
      · rfl
    rw [e, cell?_of g1, List.getElem?_map, List.getElem?_range hi]
    have : B.sh + a.off + i < cs'.size := by omega
    simp [Array.getElem?_eq_getElem this]

theorem run_loadCellsFrom {a' : Addr} : ∀ (n k : Nat) (acc : Array Value) (m : List Value), m.length = n → (∀ i, i < n → w.cell? (a'.add (k + i)) = m[i]?) →
    (loadCellsFrom a' k n acc).run P w = .ok (acc ++ m.toArray) w := by
  intro n
  induction n with
  | zero => intro k acc m hm _; obtain rfl : m = [] := by simpa using hm
            simp [loadCellsFrom]
  | succ n ih =>
    intro k acc m hm h
    cases m with
    | nil => simp at hm
    | cons x m =>
      have h0 := h 0 (by omega)
      simp only [Nat.add_zero, List.getElem?_cons_zero] at h0
      simp only [loadCellsFrom, Sem.run_bind, load, Sem.run, h0, Result.andThen]
      rw [ih (k + 1) (acc.push x) m (by simpa using hm) ?_]
      · simp
      · intro i hi
        have := h (i + 1) (by omega)
        simpa [Nat.add_assoc, Nat.add_comm 1 i] using this
theorem run_loadCells {a' : Addr} {n : Nat} {m : List Value} (hm : m.length = n) (h : ∀ i, i < n → w.cell? (a'.add i) = m[i]?) : (loadCells a' n).run P w = .ok ⟨m⟩ w := by
  have := run_loadCellsFrom (P := P) (a' := a') n 0 #[] m hm (by simpa using h)
  rw [loadCells, this]; simp

theorem q_load1 (r : Rel ι base s w) {T : TypeId} {x : Operand} (ho : o.op = .load T x) (hT : isAgg? P T = some false) {a : Addr} (hx : VR ι (.pointer (some a)) (ρ x)) {v : Value} (h : s.cell a = some v) : Ok P ι w (execOp ρ o) v := by
  obtain ⟨a', e, ha⟩ := hx.ptrE
  obtain ⟨v', g1, g2, _⟩ := r.cell ha h
  refine ⟨v', ?_, g2⟩
  simp only [execOp, ho]
  refine run_v ?_
  rw [e]
  simp [Instr.loadAt, Instr.sureAddr, loadVar, run_isAgg hT, load, Sem.run, g1, Result.andThen]
theorem q_loadN (r : Rel ι base s w) {T : TypeId} {x : Operand} (ho : o.op = .load T x) (hT : isAgg? P T = some true) {n : Nat} (hn : sizeOf? P T = some n) {a : Addr} (hx : VR ι (.pointer (some a)) (ρ x)) {l : List Value} (h : s.row a n = some l) :
    Ok P ι w (execOp ρ o) (.agg ⟨l⟩) := by
  obtain ⟨a', e, ha⟩ := hx.ptrE
  obtain ⟨g0, g1, m, g2, g3⟩ := r.row ha h
  refine ⟨.agg ⟨m⟩, ?_, .aggI g1 g2⟩
  simp only [execOp, ho]
  refine run_v ?_
  rw [e]
  simp [Instr.loadAt, Instr.sureAddr, loadVar, run_isAgg hT, run_sizeOf hn, run_loadCells (P := P) (by rw [← g2.length, g0]) g3, Result.andThen]

theorem q_faddr {S : TypeId} {x : Operand} {i : Nat} (ho : o.op = .fieldAddr S x i) {fs : Array Field} (hS : P.underlying S = some (.struct fs)) {f : Field} (hf : fs[i]? = some f) {n : Nat} (hn : sizeOf? P f.type = some n) (h0 : n ≠ 0) {a : Addr}
    (hx : VR ι (.pointer (some a)) (ρ x)) : Ok P ι w (execOp ρ o) (.pointer (some (a.add f.offset))) := by
  obtain ⟨a', e, ha⟩ := hx.ptrE
  refine ⟨_, ?_, .ptr (ha.add _)⟩
  simp only [execOp, ho]
  refine run_v ?_
  rw [e]
  simp [Instr.fieldAt, run_underlying hS, hf, Instr.sureAddr, fieldPlace, run_sizeOf hn, h0, Result.andThen]

theorem q_iaddrA {T E : TypeId} {n size : Nat} {x i : Operand} (ho : o.op = .indexAddr T x i) (hT : P.underlying T = some (.array n E)) (hE : sizeOf? P E = some size) {a : Addr} {k : Nat} {X : Value} (hX : asNat X = some k) (hk : k < n)
    (hx : VR ι (.pointer (some a)) (ρ x)) (hi : VR ι X (ρ i)) : Ok P ι w (execOp ρ o) (.pointer (some (a.add (k * size)))) := by
  obtain ⟨a', e, ha⟩ := hx.ptrE
  obtain ⟨kk, rfl⟩ := asNat_eq hX
  refine ⟨_, ?_, .ptr (ha.add _)⟩
  simp only [execOp, ho]
  refine run_v ?_
  rw [e, hi.intE]
  have h1 : (0 : Int) ≤ (k : Int) ∧ (k : Int) < (n : Int) := by omega
  simp [Instr.indexAt, asIntOf, run_underlying hT, run_sizeOf hE, Instr.sureAddr, h1, hk, Result.andThen]

theorem q_iaddrV {T E : TypeId} {size : Nat} {x i : Operand} (ho : o.op = .indexAddr T x i) (hT : P.underlying T = some (.slice E)) (hE : sizeOf? P E = some size) {a : Addr} {k n c : Nat} {X : Value} (hX : asNat X = some k) (hk : k < n)
    (hx : VR ι (.slice (some a) n c) (ρ x)) (hi : VR ι X (ρ i)) : Ok P ι w (execOp ρ o) (.pointer (some (a.add (k * size)))) := by
  obtain ⟨kk, rfl⟩ := asNat_eq hX
  have key : ∃ a' c', ρ x = .slice (some a') n c' ∧ AR ι a a' := by
    generalize ρ x = X at hx
    cases hx with
    | sl h hc hn => exact ⟨_, _, rfl, h⟩
    | slO h hs ha hc hn => exact ⟨_, _, rfl, _, h, hs, ha⟩
    | slV _ _ _ => omega
  obtain ⟨a', c', e, ha⟩ := key
  refine ⟨_, ?_, .ptr (ha.add _)⟩
  simp only [execOp, ho]
  refine run_v ?_
  rw [e, hi.intE]
  have h1 : (0 : Int) ≤ (k : Int) ∧ (k : Int) < (n : Int) := by omega
  simp [Instr.indexAt, asIntOf, run_underlying hT, run_sizeOf hE, Instr.sureAddr, h1, hk, Result.andThen]

/-- A part of a value of many cells. -/
theorem part_ok {T : TypeId} {g : Bool} (hg : isAgg? P T = some g) {n : Nat} (hn : sizeOf? P T = some n) {l m : List Value} (hs : ∀ x ∈ l, scal x) (hl : LR ι l m) {off : Nat} {v : Value} (h : partOf g l off n = some v) :
    ∃ v', (part T ⟨m⟩ off).run P w = .ok v' w ∧ VR ι v v' := by
  unfold partOf at h
  cases g
  · rw [cnd_false, nthL_eq] at h
    obtain ⟨y, hy, hv⟩ := hl.some h
    refine ⟨y, ?_, hv⟩
    simp [part, run_isAgg hg, hy, Result.andThen]
  · rw [cnd_true, takeL_eq, dropL_eq] at h
    obtain ⟨h1, h⟩ := must_eq.1 h
    cases h
    refine ⟨.agg ⟨(m.drop off).take n⟩, ?_, .aggI (fun x hx => hs x (List.mem_of_mem_drop (List.mem_of_mem_take hx))) ((hl.drop _).take _)⟩
    simp [part, run_isAgg hg, run_sizeOf hn, Result.andThen, List.extract_eq_take_drop]

theorem q_fieldV {S : TypeId} {x : Operand} {i : Nat} (ho : o.op = .field S x i) {fs : Array Field} (hS : P.underlying S = some (.struct fs)) {f : Field} (hf : fs[i]? = some f) {g : Bool} (hg : isAgg? P f.type = some g) {n : Nat} (hn : sizeOf? P f.type = some n)
    {l : List Value} (hx : VR ι (.agg ⟨l⟩) (ρ x)) {v : Value} (h : partOf g l f.offset n = some v) : Ok P ι w (execOp ρ o) v := by
  obtain ⟨hs, m, e, hl⟩ := hx.aggE
  obtain ⟨v', h1, h2⟩ := part_ok (w := w) hg hn hs hl h
  refine ⟨v', ?_, h2⟩
  simp only [execOp, ho]
  refine run_v ?_
  rw [e]
  simp [Instr.field, run_underlying hS, hf, Go.asAgg, h1, Result.andThen]
theorem q_idxA {T E : TypeId} {len n : Nat} {x i : Operand} (ho : o.op = .index T x i) (hT : P.underlying T = some (.array len E)) {g : Bool} (hg : isAgg? P E = some g) (hn : sizeOf? P E = some n)
    {l : List Value} (hx : VR ι (.agg ⟨l⟩) (ρ x)) {k : Nat} {X : Value} (hX : asNat X = some k) (hi : VR ι X (ρ i)) (hk : k < len) {v : Value} (h : partOf g l (k * n) n = some v) : Ok P ι w (execOp ρ o) v := by
  obtain ⟨hs, m, e, hl⟩ := hx.aggE
  obtain ⟨kk, rfl⟩ := asNat_eq hX
  obtain ⟨v', h1, h2⟩ := part_ok (w := w) hg hn hs hl h
  refine ⟨v', ?_, h2⟩
  simp only [execOp, ho]
  refine run_v ?_
  rw [e, hi.intE]
  have h3 : (0 : Int) ≤ (k : Int) ∧ (k : Int) < (len : Int) := by omega
  simp [Instr.index, asIntOf, run_underlying hT, run_sizeOf hn, h3, hk, h1, Result.andThen]
theorem q_idxS {T : TypeId} {x i : Operand} (ho : o.op = .index T x i) (hT : P.underlying T = some .string) {b : List UInt8} (hx : VR ι (strOf b) (ρ x)) {k : Nat} {X : Value} (hX : asNat X = some k) (hi : VR ι X (ρ i)) {c : UInt8} (h : b[k]? = some c) :
    Ok P ι w (execOp ρ o) (ofByte c) := by
  obtain ⟨kk, rfl⟩ := asNat_eq hX
  refine ⟨ofByte c, ?_, .int _ _⟩
  simp only [execOp, ho]
  refine run_v ?_
  rw [hx.strE, hi.intE]
  have h3 : (⟨⟨b⟩⟩ : ByteArray)[k]? = some c := by
    obtain ⟨hlt, he⟩ := List.getElem?_eq_some_iff.1 h
    have hlt' : k < (⟨⟨b⟩⟩ : ByteArray).size := hlt
    rw [getElem?_pos (⟨⟨b⟩⟩ : ByteArray) k hlt']
    exact congrArg some he
  simp [Instr.index, asIntOf, run_underlying hT, strOf, h3, ofByte, Result.andThen]
end
end Go.Ev
