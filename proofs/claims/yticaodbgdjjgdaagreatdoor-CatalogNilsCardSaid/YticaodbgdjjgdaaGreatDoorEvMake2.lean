/-
  More operations that make memory.
-/
import Derived.Test.YticaodbgdjjgdaaGreatDoorEvMake
set_option linter.unusedVariables false
set_option linter.unusedSimpArgs false
namespace Go.Ev
open Go (Sem)
section
variable {P : Program} {ι : Inj} {w : World} {base : Nat} {s : St} {o : Oper} {ρ : Operand → Value}

theorem wrap_id {k : Nat} (h : k ≤ room) : IntKind.i64.wrap (k : Int) = (k : Int) := by
  apply fits_iff
  simp only [fits, inN_eq, decide_eq_true_eq]
  unfold room at h
  omega

theorem d_mkSlice (r : Rel ι base s w) {T E : TypeId} {l c : Operand} (ho : o.op = .makeSlice T l c) (hT : P.underlying T = some (.slice E)) {z : Value} (hz : zeroOf P E = some z) {b n : Nat} (hb : bytesOf? P E = some b) (hE : sizeOf? P E = some n)
    (hsz : z.cells.size = n) (hn : 0 < n) {L C : Value} {k m : Nat} (hL : asNat L = some k) (hC : asNat C = some m) (hl : VR ι L (ρ l)) (hc : VR ι C (ρ c)) (hkm : k ≤ m) (hmb : m * b ≤ room) (hm : m ≤ room)
    {id : Nat} (h1 : id < s.next) (h2 : s.get id = none) (h3 : ι id = none) :
    Does P (· = id) ι base s w (execOp ρ o) (.slice (some ⟨id, 0, none⟩) k m) (s.set id (.cells (List.replicate m z.cells.toList).flatten 0 .ex)) := by
  obtain ⟨hz1, hz2⟩ := run_zeroValue (w := w) hz
  have hpl : (List.replicate m z.cells.toList).flatten.all plainC = true := by
    rw [List.all_eq_true]; intro x hx
    rw [List.mem_flatten] at hx
    obtain ⟨l, hl, hx⟩ := hx
    rw [List.mem_replicate] at hl
    rw [hl.2] at hx
    exact List.all_eq_true.1 hz2 x hx
  generalize hl' : (List.replicate m z.cells.toList).flatten = l' at *
  have hlt : m < open_ := by
    have : room < open_ := by decide
    omega
  refine Does.of (κ := ι.put id ⟨w.heap.size, 0, l'.length, 0⟩) (v' := .slice (some ⟨w.heap.size, 0, none⟩) k m) (w' := { w with heap := w.heap.push (.cells ⟨l'⟩ E) }) ?_ ?_ ?_
  rotate_left 1
  · refine Ext.new r id _ (.cells ⟨l'⟩ E) _ 0 h1 h2 h3 rfl rfl rfl rfl rfl ?_
    refine ⟨⟨l'⟩, E, (0, 0), heap_push_get w _, ?_, .zero (by intro h; cases h)⟩
    exact cellsR_of (LR.plain hpl) (fun x hx => plainC_scal (List.all_eq_true.1 hpl x hx)) rfl rfl ⟨rfl, rfl, rfl⟩
  · exact .sl (a' := ⟨w.heap.size, 0, none⟩) ⟨_, Inj.put_same _ _ _, rfl, rfl⟩ hlt hkm
  · obtain ⟨k1, rfl⟩ := asNat_eq hL
    obtain ⟨k2, rfl⟩ := asNat_eq hC
    simp only [execOp, ho]
    refine run_v ?_
    rw [hl.intE, hc.intE]
    unfold bytesOf? at hb
    cases ei : P.info? E with
    | none => rw [ei] at hb; cases hb
    | some info =>
    rw [ei] at hb
    cases hb
    have hmb : m * info.bytes ≤ room := hmb
    have hw1 := wrap_id (show k ≤ room by omega)
    have hw2 := wrap_id hm
    have t1 : ¬ ((m : Int) < 0) := by omega
    have t2 : ¬ (((info.bytes : Int) * (m : Int)) > 2 ^ 48) := by
      have : (info.bytes : Int) * (m : Int) = ((m * info.bytes : Nat) : Int) := by rw [Int.natCast_mul, Int.mul_comm]
      rw [this]
      unfold room at hmb
      have : (2 : Int) ^ 48 = 281474976710656 := by decide
      rw [this]; omega
    have t3 : ¬ ((k : Int) < 0) := by omega
    have t4 : ¬ ((k : Int) > (m : Int)) := by omega
    have t5 : ¬ (m * info.bytes > roomBytes) := by
      unfold room at hmb; unfold roomBytes
      have : (2 : Nat) ^ 47 = 140737488355328 := by decide
      omega
    have harr : ((Array.range (m * n)).map (z.cells[· % z.cells.size]!)) = ⟨l'⟩ := by rw [zeros_arr hsz hn, hl']
    unfold Instr.makeSlice
    rw [Sem.run_bind, run_underlying hT]
    simp only [Result.andThen, Go.asInt, asIntOf, Sem.run_bind, Sem.run_pure, run_typeInfo ei, hw1, hw2, t1, t2, t3, t4, decide_false, Bool.or_false, Bool.false_eq_true, if_false, askRoom, Int.toNat_natCast, t5, run_sizeOf hE]
    by_cases h0 : m * n = 0
    · have hm0 : m = 0 := by rcases Nat.mul_eq_zero.1 h0 with h | h <;> omega
      subst hm0
      simp only [Nat.zero_mul, if_true, Sem.run_bind, Sem.run_pure, Result.andThen]
      simp only [List.replicate_zero, List.flatten_nil] at hl'
      subst hl'
      have e0 : ∀ f : Nat → Value, Array.map f (Array.range 0) = #[] := by intro f; simp
      rw [e0]
      rfl
    · simp only [h0, if_false, Sem.run_bind, hz1, Sem.run_pure, Result.andThen]
      rw [harr]
      rfl

theorem freeze_push (w : World) (c : Array Value) (E : TypeId) (n : Nat) : ({ w with heap := w.heap.push (.cells c E) } : World).freeze ⟨w.heap.size, n, none⟩ 1 = { w with heap := w.heap.push (.cells c E (n, n + 1)) } := by
  unfold World.freeze
  rw [if_neg (by decide)]
  congr 1
  apply Array.ext_getElem?
  intro i
  rw [Array.getElem?_modify, Array.getElem?_push, Array.getElem?_push]
  by_cases h : w.heap.size = i
  · subst h; simp
  · rw [if_neg h, if_neg (fun e => h e.symm), if_neg (fun e => h e.symm)]

theorem cut_ge (need old : Nat) (e : TypeId) (t : Nat) : need ≤ (Question.appendCap need old e).cut t := by
  simp only [Question.cut]; omega
theorem forced_no (need old : Nat) (e : TypeId) : (Question.appendCap need old e).forced = false := rfl

theorem d_convSB (r : Rel ι base s w) {S D E : TypeId} {x : Operand} (ho : o.op = .convert S D x) (hS : P.underlying S = some .string) (hD : P.underlying D = some (.slice E)) (hE : P.underlying E = some (.int .u8)) {b : List UInt8} (hx : VR ι (strOf b) (ρ x))
    {id : Nat} (h1 : id < s.next) (h2 : s.get id = none) (h3 : ι id = none) :
    Does P (· = id) ι base s w (execOp ρ o) (sl id b.length) (s.set id (.cells (b.map ofByte) 1 .gr)) := by
  generalize hcap : (Question.appendCap b.length 0 E).cut (w.tape w.drawn (.appendCap b.length 0 E)) = cap
  have hge : b.length ≤ cap := by rw [← hcap]; exact cut_ge _ _ _ _
  generalize hl' : b.map ofByte ++ List.replicate (cap - b.length) (Value.int .u8 0) = l'
  have hlen : l'.length = cap := by rw [← hl']; simp; omega
  refine Does.of (κ := ι.put id ⟨w.heap.size, 0, cap, 1⟩) (v' := .slice (some ⟨w.heap.size, 0, none⟩) b.length cap) (w' := { w with heap := w.heap.push (.cells ⟨l'⟩ E (cap, cap + 1)), drawn := w.drawn + 1 }) ?_ ?_ ?_
  rotate_left 1
  · refine Ext.new r id _ (.cells ⟨l'⟩ E (cap, cap + 1)) _ 1 h1 h2 h3 rfl rfl rfl rfl rfl ?_
    refine ⟨⟨l'⟩, E, (cap, cap + 1), heap_push_get w _, ⟨hlen, by simpa using hge, ?_, ?_⟩, ⟨fun _ => ⟨rfl, by decide⟩, .inl rfl⟩⟩
    · intro i x hx
      have hi : i < b.length := by simpa using (List.getElem?_eq_some_iff.1 hx).1
      rw [List.getElem?_map] at hx
      cases e : b[i]? with
      | none => rw [e] at hx; cases hx
      | some c =>
        rw [e] at hx; cases hx
        refine ⟨trivial, ofByte c, ?_, .int _ _⟩
        simp only [Nat.zero_add, arr_get]
        rw [← hl', List.getElem?_append_left (by simpa using hi), List.getElem?_map, e]; rfl
    · intro o' ho1 ho2 hc
      simp only at ho1 ho2 hc
      omega
  · refine .slO (B := ⟨w.heap.size, 0, cap, 1⟩) (Inj.put_same _ _ _) rfl rfl ?_ hge
    simp
  · simp only [execOp, ho]
    refine run_v ?_
    rw [hx.strE]
    have hb : (⟨⟨b⟩⟩ : ByteArray).size = b.length := rfl
    have helems : ((⟨⟨b⟩⟩ : ByteArray).data.map (fun b => Value.int .u8 b.toNat)) ++ Array.replicate (cap - b.length) (.int .u8 0) = ⟨l'⟩ := by
      apply Array.ext'
      rw [← hl']
      simp only [Array.toList_append, Array.toList_map, Array.toList_replicate]
      rfl
    have hconv : convert S D (strOf b) = (do
        let __do_lift ← underlying S
        let __do_lift_1 ← underlying D
        match __do_lift, __do_lift_1, (strOf b) with
        | _, _, _ => convert S D (strOf b)) ∨ True := .inr trivial
    have hrun : (Conv.stringToBytes E ⟨⟨b⟩⟩).run P w = .ok (.slice (some ⟨w.heap.size, 0, none⟩) b.length cap) { w with heap := w.heap.push (.cells ⟨l'⟩ E (cap, cap + 1)), drawn := w.drawn + 1 } := by
      unfold Conv.stringToBytes
      rw [Sem.run_bind]
      simp only [choose, Sem.run, forced_no, Bool.false_eq_true, if_false, hb, hcap, Result.andThen]
      rw [helems]
      simp only [Sem.run_bind, newRow, newObj, Sem.run, Sem.run_pure, Result.andThen, markStringish, shape]
      have hsh : ({ w with heap := w.heap.push (.cells ⟨l'⟩ E), drawn := w.drawn + 1 } : World).shape? w.heap.size = some (E, cap) := by
        unfold World.shape?
        simp only [heap_push_get]
        rw [← hlen]; rfl
      simp only [hsh]
      have hfz := freeze_push { w with drawn := w.drawn + 1 } ⟨l'⟩ E cap
      show Result.ok _ _ = Result.ok _ _
      congr 1
    simp [convert, run_underlying hS, run_underlying hD, run_underlying hE, strOf, hrun, Result.andThen]
end
end Go.Ev
