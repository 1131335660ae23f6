/-
  append and copy, as operations; bytes as a text.
-/
import Derived.Test.YticaodbgdjjgdaaGreatDoorEvAppend
set_option linter.unusedVariables false
set_option linter.unusedSimpArgs false
namespace Go.Ev
open Go (Sem)
section
variable {P : Program} {ι : Inj} {w : World} {base : Nat} {s : St} {o : Oper} {ρ : Operand → Value}

theorem arr2 {α : Type} {a : Array α} {x y : α} (h : a.toList = [x, y]) : a = #[x, y] := by
  apply Array.ext'; simpa using h
theorem arr1 {α : Type} {a : Array α} {x : α} (h : a.toList = [x]) : a = #[x] := by
  apply Array.ext'; simpa using h

theorem d_append (r : Rel ι base s w) {c : Call} (ho : o.op = .call c) (hc : c.callee = .builtin .append) {t u e : TypeId} (ht : c.argTypes.toList = [t, u]) {x y : Operand} (ha : c.args.toList = [x, y])
    (hT : P.underlying t = some (.slice e)) (hU : (∃ e', P.underlying u = some (.slice e')) ∨ P.underlying u = some .string) {n b : Nat} {z : Value} (hE : sizeOf? P e = some n) (hb : bytesOf? P e = some b) (hz : zeroOf P e = some z)
    (hzs : z.cells.size = n) (hn : 0 < n) (hsz : n < 65536) (hb0 : 0 < b) {X Y : Value} (hX : VR ι X (ρ x)) (hY : VR ι Y (ρ y)) {v : Value} {s' : St} (h : appendOp (tag e n) n b s X Y = some (v, s')) (S : Nat → Prop) : Does P S ι base s w (execOp ρ o) v s' := by
  obtain ⟨i, hi, rfl, rfl, hiz⟩ := info_of hE hb hz
  obtain ⟨k, hk, h⟩ := ob_eq.1 h
  obtain ⟨new, hnew, h⟩ := ob_eq.1 h
  obtain ⟨f1, news, f2, f3, f4, f5⟩ := firstCells_ok (P := P) r hY hk (Nat.le_refl _) hnew
  have src : Src P i.size u (ρ y) k news w := ⟨hU, f1, f2 w.drawn, f2 (w.drawn + 1), f3, fun q hq => scal_one (f4.scal f5 q hq)⟩
  obtain ⟨κ, v', w', g1, g2, g3⟩ := appendNew_ok (ty := o.type) r hT hi hiz hzs hn hb0 hX (App.src hT hi hiz src) f4 f5 (esz_tag hsz) (.inr (ety_tag hsz)) hsz h S
  refine Does.of ?_ g2 g3
  refine run_call_len ho hc (m := Builtin.append_ c.argTypes o.type (c.args.map ρ)) (fun _ => rfl) ?_
  rw [arr2 ht, arr2 ha]
  simpa using g1

theorem d_appendZ (r : Rel ι base s w) {c : Call} (ho : o.op = .call c) (hc : c.callee = .builtin .append) {t u e : TypeId} (ht : c.argTypes.toList = [t, u]) {x y : Operand} (ha : c.args.toList = [x, y])
    (hT : P.underlying t = some (.slice e)) {kn : IntKind} (hU : P.underlying u = some (.int kn)) {n b : Nat} {z : Value} (hE : sizeOf? P e = some n) (hb : bytesOf? P e = some b) (hz : zeroOf P e = some z)
    (hzs : z.cells.size = n) (hn : 0 < n) (hsz : n < 65536) (hb0 : 0 < b) {fr : Fr} (hX : VR ι ((rArg x).ev fr) (ρ x)) (hY : VR ι ((rArg y).ev fr) (ρ y)) {v : Value} {s' : St} {id : Nat} (h : cAppendZ (tag e n) n b z.cells.toList (rArg x) (rArg y) fr s id = some (v, s')) (S : Nat → Prop) : Does P S ι base s w (execOp ρ o) v s' := by
  obtain ⟨i, hi, rfl, rfl, hiz⟩ := info_of hE hb hz
  obtain ⟨k, hk, h1⟩ := ob_eq.1 h
  obtain ⟨h2, h3⟩ := must_eq.1 h1
  obtain ⟨h4, h5⟩ := must_eq.1 h3
  rw [Nat.ble_eq] at h2 h4
  have hro : room = 140737488355328 := rfl
  obtain ⟨kq, hkq⟩ := asNat_eq hk
  rw [hkq] at hY
  have hy := hY.intE
  have app : App P t u o.type e i z (ρ y) k (List.replicate k z.cells.toList).flatten w := by
    rw [hy]; exact App.zeros hT hU hi hiz hzs hn kq k (by omega) (by omega)
  rw [zeros_eq] at h5
  obtain ⟨hz1, hz2⟩ := run_zeroValue (w := w) hz
  have hpl : ((List.replicate k z.cells.toList).flatten).all plainC = true := by
    rw [List.all_eq_true]; intro x hx
    rw [List.mem_flatten] at hx
    obtain ⟨l, hl, hx⟩ := hx
    rw [List.mem_replicate] at hl
    rw [hl.2] at hx
    exact List.all_eq_true.1 hz2 x hx
  obtain ⟨κ, v', w', g1, g2, g3⟩ := appendNew_ok (ty := o.type) r hT hi hiz hzs hn hb0 hX app (LR.plain hpl) (fun x hx => plainC_scal (List.all_eq_true.1 hpl x hx)) (esz_tag hsz) (.inr (ety_tag hsz)) hsz h5 S
  refine Does.of ?_ g2 g3
  refine run_call_len ho hc (m := Builtin.append_ c.argTypes o.type (c.args.map ρ)) (fun _ => rfl) ?_
  rw [arr2 ht, arr2 ha]
  simpa using g1

theorem d_copy (r : Rel ι base s w) {c : Call} (ho : o.op = .call c) (hc : c.callee = .builtin .copy) {t e : TypeId} {l : List TypeId} (ht : c.argTypes.toList = t :: l) {x y : Operand} (ha : c.args.toList = [x, y])
    (hT : P.underlying t = some (.slice e)) {n : Nat} (hE : sizeOf? P e = some n) {fr : Fr} (hX : VR ι ((rArg x).ev fr) (ρ x)) (hY : VR ι ((rArg y).ev fr) (ρ y)) {v : Value} {s' : St} {id : Nat} (h : cCopy n (rArg x) (rArg y) fr s id = some (v, s')) (S : Nat → Prop) :
    Does P S ι base s w (execOp ρ o) v s' := by
  obtain ⟨⟨a0, dl, dc⟩, h1, h⟩ := ob_eq.1 h
  obtain ⟨xl, h2, h⟩ := ob_eq.1 h
  obtain ⟨new, h3, h⟩ := ob_eq.1 h
  simp only at h h1 h3
  generalize hk : cnd (xl.ble dl) xl dl = k at h h3
  have hkm : k = Nat.min xl dl := by
    rw [← hk, cnd_eq]
    split
    · rename_i hh; rw [Nat.ble_eq] at hh; exact (Nat.min_eq_left hh).symm
    · rename_i hh; rw [Nat.ble_eq] at hh; exact (Nat.min_eq_right (by omega)).symm
  have hkl : k ≤ xl := by rw [hkm]; exact Nat.min_le_left _ _
  obtain ⟨f1, news, f2, f3, f4, f5⟩ := firstCells_ok (P := P) r hY h2 hkl h3
  rw [asSl_eq h1] at hX
  simp only at hX
  have hdst : ∃ b c', ρ x = .slice b dl c' ∧ ((a0 = none ∧ b = none) ∨ ∃ a a', a0 = some a ∧ b = some a' ∧ (AR ι a a' ∨ (k = 0 ∧ ∃ a2, AR ι a a2))) := by
    generalize ρ x = Z at hX
    cases hX with
    | slN => exact ⟨_, _, rfl, .inl ⟨rfl, rfl⟩⟩
    | sl ha _ _ => exact ⟨_, _, rfl, .inr ⟨_, _, rfl, rfl, .inl ha⟩⟩
    | slO hq hs ha hc hle => exact ⟨_, _, rfl, .inr ⟨_, _, rfl, rfl, .inl ⟨_, hq, hs, ha⟩⟩⟩
    | slV hq hs ha => exact ⟨_, _, rfl, .inr ⟨_, _, rfl, rfl, .inr ⟨by rw [hkm]; exact Nat.min_eq_right (Nat.zero_le _), _, _, hq, hs, rfl⟩⟩⟩
  obtain ⟨b, c', hx', hdst⟩ := hdst
  have hrun : ∀ w', (∀ a, b = some a → (storeCells a news).run P w = .ok () w') → (b = none → w' = w) → (execOp ρ o).run P w = .ok (.value (goInt k)) w' := by
    intro w' g1 g2
    refine run_call_len ho hc (m := Builtin.copy_ c.argTypes o.type (c.args.map ρ)) (fun _ => rfl) ?_
    have e0 : c.argTypes[0]? = some t := by rw [← Array.getElem?_toList, ht]; rfl
    rw [arr2 ha]
    have f2' := f2 w.drawn
    have hm : Nat.min xl dl = k := hkm.symm
    cases b with
    | none =>
      rw [g2 rfl]
      simp [Builtin.copy_, e0, hx', Go.run_underlying hT, Result.andThen, f1, run_sizeOf hE, hm, f2']
    | some a =>
      have := g1 a rfl
      simp [Builtin.copy_, e0, hx', Go.run_underlying hT, Result.andThen, f1, run_sizeOf hE, hm, f2', this]
  rcases hdst with ⟨rfl, rfl⟩ | ⟨a, a', rfl, rfl, hAR⟩
  · cases h
    exact Does.of (hrun w (by intro a h; cases h) (fun _ => rfl)) (Ext.refl r) (.int _ _)
  · obtain ⟨s2, hput, h⟩ := om_eq.1 h
    cases h
    rcases hAR with hAR | ⟨h0, a2, hAR⟩
    · obtain ⟨w', k1, k2⟩ := put_ok (P := P) r hAR f4 f5 hput S
      exact Does.of (hrun w' (by intro a0 h0; cases h0; exact k1) (by intro h; cases h)) k2 (.int _ _)
    · subst h0
      have hnil : news = [] := List.eq_nil_of_length_eq_zero (by rw [f3]; omega)
      subst hnil
      obtain ⟨w', k1, k2⟩ := put_ok (P := P) r hAR f4 f5 hput S
      have : w' = w := by
        have k1' : (Result.ok () w : Result Unit) = .ok () w' := k1
        cases k1'; rfl
      subst this
      exact Does.of (hrun w' (by intro a0 h0; cases h0; rfl) (by intro h; cases h)) k2 (.int _ _)

end
end Go.Ev
