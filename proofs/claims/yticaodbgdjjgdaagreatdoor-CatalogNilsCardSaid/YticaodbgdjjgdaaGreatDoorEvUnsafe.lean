/-
  Pointers that go through unsafe.Pointer and come back; the bytes of a row as a text (strings.Builder's).
-/
import Derived.Test.YticaodbgdjjgdaaGreatDoorEvMap3
import Derived.Lib.UnsafeStr
set_option linter.unusedVariables false
set_option linter.unusedSimpArgs false
namespace Go.Ev
open Go (Sem)
section
variable {P : Program} {ι : Inj} {w : World} {base : Nat} {s : St} {o : Oper} {ρ : Operand → Value}

theorem shape_of {w : World} {b : Nat} {cs : Array Value} {T : TypeId} {fr : Nat × Nat} (h : w.heap[b]? = some (.cells cs T fr)) : w.shape? b = some (T, cs.size) := by
  unfold World.shape?
  rw [h]
theorem run_viewAt {w : World} {b : Nat} {x : TypeId × Nat} (h : w.shape? b = some x) : (viewAt b).run P w = .ok none w := by
  simp [viewAt, h]
theorem run_seenAt {w : World} {a : Addr} {x : TypeId × Nat} (h : w.shape? a.block = some x) : (Conv.seenAt a).run P w = .ok a w := by
  simp [Conv.seenAt, run_viewAt h, Result.andThen]

theorem q_toUnsafe (r : Rel ι base s w) {S D T : TypeId} {x : Operand} (ho : o.op = .convert S D x) (hS : P.underlying S = some (.pointer T)) (hD : P.underlying D = some .unsafePointer) {n : Nat} (hn : sizeOf? P T = some (n + 1)) {X : Value} (hx : VR ι X (ρ x))
    {p : Option Addr} (hp : asPtr X = some p) (hc : ∀ a, p = some a → ∃ v, s.cell a = some v) : Ok P ι w (execOp ρ o) X := by
  refine ⟨ρ x, ?_, hx⟩
  simp only [execOp, ho]
  refine run_v ?_
  rw [asPtr_eq hp] at hx
  cases p with
  | none =>
    rw [hx.ptrNE]
    simp [convert, Conv.unsafePointer, run_underlying hS, run_underlying hD, Result.andThen]
  | some a =>
    obtain ⟨v, hv⟩ := hc a rfl
    obtain ⟨a', e, ha⟩ := hx.ptrE
    rw [e]
    obtain ⟨c, h1, h2⟩ := ob_eq.1 hv
    obtain ⟨B, hB, hs, rfl⟩ := ha
    obtain ⟨cs', T', fr, g1, ⟨g2, g3, g4, g5⟩, g6⟩ := r.cells (asCells_eq h1) hB
    rw [nthL_eq] at h2
    have hlt := (List.getElem?_eq_some_iff.1 h2).1
    have hsh := shape_of g1
    have hno : ¬ (cs'.size ≤ B.sh + a.off) := by omega
    simp [convert, Conv.unsafePointer, run_underlying hS, run_underlying hD, Result.andThen, run_seenAt (P := P) (a := ⟨B.b, B.sh + a.off, none⟩) hsh, cellsIn, hsh, run_sizeOf hn, hno]

theorem q_ofUnsafe (r : Rel ι base s w) {S D T : TypeId} {x : Operand} (ho : o.op = .convert S D x) (hS : P.underlying S = some .unsafePointer) (hD : P.underlying D = some (.pointer T)) {n : Nat} (hn : sizeOf? P T = some (n + 1)) (hl : liesAt P P.depth T ((n + 1) / P.cellsOf T) 0 T 1 = true)
    {X : Value} (hx : VR ι X (ρ x)) {p : Option Addr} (hp : asPtr X = some p) (hc : ∀ a, p = some a → a.off = 0 ∧ ∃ cs es, s.get a.block = some (.cells cs es .ex) ∧ ety es = T + 1 ∧ cs.length = n + 1) : Ok P ι w (execOp ρ o) X := by
  refine ⟨ρ x, ?_, hx⟩
  simp only [execOp, ho]
  refine run_v ?_
  rw [asPtr_eq hp] at hx
  cases p with
  | none =>
    rw [hx.ptrNE]
    simp [convert, Conv.unsafePointer, run_underlying hS, run_underlying hD, Result.andThen]
  | some a =>
    obtain ⟨h0, cs, es, h1, h2, h3⟩ := hc a rfl
    obtain ⟨a', e, ha⟩ := hx.ptrE
    rw [e]
    obtain ⟨B, hB, hs, rfl⟩ := ha
    obtain ⟨cs', T', fr, g1, ⟨g2, g3, g4, g5⟩, g6⟩ := r.cells h1 hB
    obtain ⟨q1, q2, q3⟩ := g5
    have hT : T' = T := by
      rcases g6.2 with h | ⟨h, _⟩
      · rw [h2] at h; cases h
      · exact Nat.succ.inj (h.symm.trans h2)
    subst hT
    have hsh := shape_of g1
    have hsz : cs'.size = n + 1 := by omega
    rw [hsz] at hsh
    have hoff : B.sh + a.off = 0 := by omega
    rw [hoff]
    simp [convert, Conv.unsafePointer, run_underlying hS, run_underlying hD, Result.andThen, run_seenAt (P := P) (a := ⟨B.b, 0, none⟩) hsh, run_sizeOf hn, variablesAt, hsh, hl]

theorem q_sliceData {x : Operand} {c : Call} (ho : o.op = .call c) (hc : c.callee = .builtin .unsafeSliceData) (ha : c.args = #[x]) {X : Value} (hx : VR ι X (ρ x)) {a : Option Addr} {n k : Nat} (hX : asSl X = some (a, n, k))
    (hk : a.isSome = true → if k = open_ then n ≠ 0 else k ≠ 0) : Ok P ι w (execOp ρ o) (.pointer a) := by
  rw [asSl_eq hX] at hx
  simp only at hx
  have key : ∃ b k', ρ x = .slice b n k' ∧ (b = none ∨ k' ≠ 0) ∧ VR ι (.pointer a) (.pointer b) := by
    generalize ρ x = Z at hx
    cases hx with
    | slN => exact ⟨_, _, rfl, .inl rfl, .ptrN⟩
    | sl h1 h2 h3 =>
      have := hk rfl
      rw [if_neg (by omega)] at this
      exact ⟨_, _, rfl, .inr this, .ptr h1⟩
    | slO h1 h2 h3 h4 h5 =>
      have := hk rfl
      rw [if_pos rfl] at this
      exact ⟨_, _, rfl, .inr (by omega), .ptr ⟨_, h1, h2, h3⟩⟩
    | slV h1 h2 h3 =>
      have := hk rfl
      rw [if_pos rfl] at this
      exact absurd rfl this
  obtain ⟨b, k', e, h1, h2⟩ := key
  refine ⟨.pointer b, run_call_len ho hc (m := Builtin.unsafeSliceData_ c.argTypes o.type (c.args.map ρ)) (fun _ => rfl) ?_, h2⟩
  rw [ha]
  simp only [List.map_toArray, List.map_cons, List.map_nil, e]
  cases b with
  | none => exact Lib.run_unsafeSliceData_nil _ _ _ _ _
  | some b => exact Lib.run_unsafeSliceData_row _ _ _ _ _ _ (h1.resolve_left (by simp))

theorem run_loadBytes (w : World) : ∀ (l : List Int) (a : Addr) (acc : ByteArray), (∀ (j : Nat) (x : Int), l[j]? = some x → w.cell? (a.add j) = some (.int .u8 x)) →
    (loadBytes a acc l.length).run P w = .ok ⟨acc.data ++ (l.map fun n => UInt8.ofNat n.toNat).toArray⟩ w
  | [], a, acc, _ => by simp [loadBytes]
  | x :: l, a, acc, h => by
    have h0 : w.cell? a = some (.int .u8 x) := by
      have := h 0 x rfl
      simpa [Addr.add] using this
    have ih := run_loadBytes w l (a.add 1) (acc.push (UInt8.ofNat x.toNat)) (fun j y hy => by
      have := h (j + 1) y (by simpa using hy)
      have e : (a.add 1).add j = a.add (j + 1) := by
        unfold Addr.add
        by_cases hj : j = 0
        · subst hj; simp
        · simp [hj]; omega
      rw [e]; exact this)
    have hx : (x.toNat).toUInt8 = UInt8.ofNat x.toNat := rfl
    simp only [List.length_cons, loadBytes, Sem.run_bind, run_load, h0, Result.andThen, hx]
    rw [ih]
    congr 1
    apply ByteArray.ext
    simp [ByteArray.push]

theorem liesAt_bytes {e : TypeId} (hc : P.cellsOf e = 1) (count off n : Nat) (hn : off + n ≤ count) : liesAt P P.depth e count off e n = true := by
  have hd : P.depth = (2 * (P.types.size + Made.depth) + 1) + 1 := rfl
  rw [hd]
  simp only [liesAt, Bool.or_eq_true]
  left
  rw [hd]
  simp [rowAt, hc, hn, sameLayout, Nat.mod_one]

theorem run_unsafeString (w : World) (pt it ty e : TypeId) (hp : P.underlying pt = some (.pointer e)) (hc : P.cellsOf e = 1) (a : Addr) (cells : Nat) (hsh : w.shape? a.block = some (e, cells)) (l : List Int) (h0 : l.length ≠ 0) (hn : a.off + l.length ≤ cells) (h63 : l.length ≤ 9223372036854775807)
    (hcell : ∀ (j : Nat) (x : Int), l[j]? = some x → w.cell? (a.add j) = some (.int .u8 x)) (k : IntKind) :
    (Builtin.unsafeString_ #[pt, it] ty #[.pointer (some a), .int k l.length]).run P w = .ok (.string ⟨(l.map fun n => UInt8.ofNat n.toNat).toArray⟩) (w.freeze a l.length) := by
  have hlb := run_loadBytes (P := P) w l a .empty hcell
  have hlies := liesAt_bytes (P := P) hc (cells / P.cellsOf e) a.off l.length (by rw [hc]; simpa using hn)
  have h63' : ¬ (9223372036854775807 : Int) < (l.length : Int) := by omega
  have hdef : Builtin.unsafeString_ #[pt, it] ty #[.pointer (some a), .int k l.length] =
      (do
        let n ← Go.asInt (.int k l.length)
        if n < 0 then runtimePanic (.error "unsafe.String: len out of range")
        if n > IntKind.i64.max then unsupported (.unsafePointer "String: a length above the largest int")
        if n = 0 then pure (.string .empty)
        else if ← variablesAt a (← elemOf pt) n.toNat then do
          let s ← loadBytes a .empty n.toNat
          freeze a n.toNat
          pure (.string s)
        else unsupported (.unsafePointer "String: not so many bytes at ptr")) := rfl
  rw [hdef]
  have hmax : IntKind.i64.max = 9223372036854775807 := rfl
  have hneg : ¬ (l.length : Int) < 0 := by omega
  simp [Go.asInt, asIntOf, hmax, h63', hneg, h0, variablesAt, hsh, elemOf, run_underlying hp, hlies, hlb]

theorem run_unsafeString_none (w : World) (pt it ty : TypeId) (p : Option Addr) (k : IntKind) : (Builtin.unsafeString_ #[pt, it] ty #[.pointer p, .int k 0]).run P w = .ok (.string .empty) w := by
  have hmax : IntKind.i64.max = 9223372036854775807 := rfl
  cases p with
  | none =>
    have hdef : Builtin.unsafeString_ #[pt, it] ty #[.pointer none, .int k 0] =
        (do
          let n ← Go.asInt (.int k 0)
          if n < 0 then runtimePanic (.error "unsafe.String: len out of range")
          if n > IntKind.i64.max then unsupported (.unsafePointer "String: a length above the largest int")
          if n = 0 then pure (.string .empty)
          else runtimePanic (.error "unsafe.String: ptr is nil and len is not zero")) := rfl
    rw [hdef]
    simp [Go.asInt, asIntOf, hmax]
  | some a =>
    have hdef : Builtin.unsafeString_ #[pt, it] ty #[.pointer (some a), .int k 0] =
        (do
          let n ← Go.asInt (.int k 0)
          if n < 0 then runtimePanic (.error "unsafe.String: len out of range")
          if n > IntKind.i64.max then unsupported (.unsafePointer "String: a length above the largest int")
          if n = 0 then pure (.string .empty)
          else if ← variablesAt a (← elemOf pt) n.toNat then do
            let s ← loadBytes a .empty n.toNat
            freeze a n.toNat
            pure (.string s)
          else unsupported (.unsafePointer "String: not so many bytes at ptr")) := rfl
    rw [hdef]
    simp [Go.asInt, asIntOf, hmax]

theorem freeze_at {w : World} {b off n : Nat} {cs : Array Value} {T : TypeId} {fr : Nat × Nat} (h : w.heap[b]? = some (.cells cs T fr)) (hn : n ≠ 0) :
    (w.freeze ⟨b, off, none⟩ n).heap[b]? = some (.cells cs T (if fr.1 == fr.2 then (off, off + n) else (min fr.1 off, max fr.2 (off + n)))) ∧ (w.freeze ⟨b, off, none⟩ n).heap.size = w.heap.size ∧ ∀ b', b' ≠ b → (w.freeze ⟨b, off, none⟩ n).heap[b']? = w.heap[b']? := by
  unfold World.freeze
  rw [if_neg hn]
  refine ⟨?_, by simp, fun b' hb => ?_⟩
  · simp only [Array.getElem?_modify, if_true, h, Option.map_some]
  · simp only [Array.getElem?_modify]
    rw [if_neg (fun e => hb e.symm)]

theorem d_unsafeStr (r : Rel ι base s w) {x y : Operand} {c : Call} (ho : o.op = .call c) (hc : c.callee = .builtin .unsafeString) (ha : c.args.toList = [x, y]) {t it T : TypeId} (ht : c.argTypes.toList = [t, it]) (hT : P.underlying t = some (.pointer T)) (hcell : P.cellsOf T = 1)
    {fr : Fr} (hx : VR ι ((rArg x).ev fr) (ρ x)) (hy : VR ι ((rArg y).ev fr) (ρ y)) {v : Value} {s' : St} {id : Nat} (h : cUnsafeStr T (rArg x) (rArg y) fr s id = some (v, s')) (S : Nat → Prop) : Does P S ι base s w (execOp ρ o) v s' := by
  obtain ⟨p, h1, H1⟩ := ob_eq.1 h
  obtain ⟨n, h2, H2⟩ := ob_eq.1 H1
  rw [asPtr_eq h1] at hx
  obtain ⟨k, hk⟩ := asNat_eq h2
  rw [hk] at hy
  have hy' := hy.intE
  have hrun : ∀ (v' : Value) (w' : World), (Builtin.unsafeString_ #[t, it] o.type #[ρ x, ρ y]).run P w = .ok v' w' → (execOp ρ o).run P w = .ok (.value v') w' := by
    intro v' w' hr
    refine run_call_len ho hc (m := Builtin.unsafeString_ c.argTypes o.type (c.args.map ρ)) (fun _ => rfl) ?_
    rw [show c.argTypes = #[t, it] from by apply Array.ext'; simpa using ht, show c.args = #[x, y] from by apply Array.ext'; simpa using ha]
    simpa using hr
  rw [cnd_eq] at H2
  split at H2
  · rename_i h0
    rw [Nat.beq_eq] at h0
    subst h0
    cases H2
    have : ∃ q, ρ x = .pointer q := by
      generalize ρ x = Z at hx
      cases hx <;> exact ⟨_, rfl⟩
    obtain ⟨q, hq⟩ := this
    refine Does.of (hrun _ w ?_) (Ext.refl r) (v' := .string .empty) ?_
    · rw [hq, hy']; exact run_unsafeString_none w t it o.type q k
    · exact .string _
  · rename_i h0
    rw [Nat.beq_eq] at h0
    obtain ⟨h3, H3⟩ := must_eq.1 H2
    obtain ⟨a, rfl, H4⟩ := ob_eq.1 H3
    obtain ⟨cc, h4, H5⟩ := ob_eq.1 H4
    obtain ⟨h5, H6⟩ := must_eq.1 H5
    obtain ⟨h6, H7⟩ := must_eq.1 H6
    obtain ⟨h7, H8⟩ := must_eq.1 H7
    obtain ⟨l, h8, H9⟩ := om_eq.1 H8
    cases H9
    clear h H1 H2 H3 H4 H5 H6 H7 H8
    rw [Nat.ble_eq] at h3 h7
    rw [Nat.beq_eq] at h5
    rw [lenL_eq] at h7
    rw [takeL_eq, dropL_eq] at h8
    obtain ⟨cs, es, md⟩ := cc
    simp only at h4 h5 h6 h7 h8
    have hg := asCells_eq h4
    simp only at hg
    obtain ⟨a', e, B, hB, hs, rfl⟩ := hx.ptrE
    obtain ⟨cs', T', frz, g1, ⟨g2, g3, g4, g5⟩, g6⟩ := r.cells hg hB
    obtain ⟨hty1, hty2⟩ := g6
    have hT2 : T' = T ∧ (md = .gr → frz.2 ≤ B.sh) ∧ (md = .fz → frz.2 ≤ B.sh + cs.length) := by
      rcases hty2 with h | ⟨h, h'⟩
      · rw [h5] at h; cases h
      · exact ⟨by rw [h5] at h; exact (Nat.succ.inj h).symm, h'⟩
    obtain ⟨rfl, hz1, hz2⟩ := hT2
    obtain ⟨ns, e1, e2⟩ := toByte_eq h8
    have hlen : ns.length = n := by
      have := congrArg List.length e1
      simp only [List.length_take, List.length_drop, List.length_map] at this
      omega
    have hcells : ∀ (j : Nat) (q : Int), ns[j]? = some q → w.cell? ((⟨B.b, B.sh + a.off, none⟩ : Addr).add j) = some (.int .u8 q) := by
      intro j q hq
      have hj : j < n := by have := (List.getElem?_eq_some_iff.1 hq).1; omega
      have : cs[a.off + j]? = some (.int .u8 q) := by
        have e3 := congrArg (fun l => l[j]?) e1
        simp only [List.getElem?_take, if_pos hj, List.getElem?_drop, List.getElem?_map, hq, Option.map_some] at e3
        exact e3
      obtain ⟨_, y2, f2, f3⟩ := g4 _ _ this
      have hadd : (⟨B.b, B.sh + a.off, none⟩ : Addr).add j = ⟨B.b, B.sh + a.off + j, none⟩ := by
        unfold Addr.add
        split
        · subst_vars; simp
        · rfl
      rw [hadd, cell?_of g1, Nat.add_assoc, f2, f3.intE]
    have hro : room = 140737488355328 := rfl
    have hr := run_unsafeString (P := P) w t it o.type T' hT hcell ⟨B.b, B.sh + a.off, none⟩ cs'.size (shape_of g1) ns (by omega) (by simp only; omega) (by omega) hcells k
    obtain ⟨z1, z2, z3⟩ := freeze_at (off := B.sh + a.off) (n := ns.length) g1 (by omega)
    have hown : owned (Ob.cells cs es md) = true := by cases md <;> first | (cases h6; done) | rfl
    have hend : (if frz.1 == frz.2 then (B.sh + a.off, B.sh + a.off + ns.length) else (min frz.1 (B.sh + a.off), max frz.2 (B.sh + a.off + ns.length))).2 ≤ B.sh + cs.length := by
      have : frz.2 ≤ B.sh + cs.length := by
        cases md with
        | gr => have := hz1 rfl; omega
        | fz => exact hz2 rfl
        | _ => cases h6
      split
      · simp only; omega
      · simp only; omega
    refine Does.of (hrun _ _ ?_) (Ext.write r a.block _ (.cells cs es .fz) B hg hown hB z2 z3 ?_ ?_ ?_ ?_) (v' := .string ⟨(ns.map fun n => UInt8.ofNat n.toNat).toArray⟩) ?_
    · rw [e, hy', ← hlen]; exact hr
    · unfold World.freeze; split <;> rfl
    · unfold World.freeze; split <;> rfl
    · unfold World.freeze; split <;> rfl
    · exact ⟨cs', T', _, z1, ⟨g2, g3, g4, freeFrom_of hend⟩, ⟨fun _ => hty1 h6, .inr ⟨h5, fun h => by (cases h), fun _ => hend⟩⟩⟩
    · rw [e2]; exact .string _
end
end Go.Ev
