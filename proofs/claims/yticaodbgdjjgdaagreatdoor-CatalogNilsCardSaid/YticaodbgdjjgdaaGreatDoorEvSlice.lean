/-
  Reading, second part: slices of slices and of texts, nil, pointers that are compared, lengths.
-/
import Derived.Test.YticaodbgdjjgdaaGreatDoorEvLoad
set_option linter.unusedVariables false
set_option linter.unusedSimpArgs false
namespace Go.Ev
open Go (Sem)
section
variable {P : Program} {ι : Inj} {w : World} {base : Nat} {s : St} {o : Oper} {ρ : Operand → Value}

theorem q_mkFunc {f : FuncId} {xs ys : Array Operand} (ho : o.op = .makeFunc (.func f) xs ys) {a c : List Value} (ha : LR ι a (xs.toList.map ρ)) (hc : LR ι c (ys.toList.map ρ)) :
    Ok P ι w (execOp ρ o) (.func (.func f) ⟨a⟩ ⟨c⟩) := by
  refine ⟨.func (.func f) ⟨xs.toList.map ρ⟩ ⟨ys.toList.map ρ⟩, ?_, .func (f := .func f) rfl ha.length ha.get hc.length hc.get⟩
  simp only [execOp, ho]
  refine run_v ?_
  have e1 : xs.map ρ = ⟨xs.toList.map ρ⟩ := by apply Array.ext'; simp
  have e2 : ys.map ρ = ⟨ys.toList.map ρ⟩ := by apply Array.ext'; simp
  rw [e1, e2]; rfl

theorem run_call_len {c : Call} {b : Builtin} (ho : o.op = .call c) (hc : c.callee = .builtin b) {w' : World} {v : Value} {m : Sem Value}
    (hm : ∀ cs, builtin b c.argTypes o.type cs (c.args.map ρ) = (do pure (Next.value (← m)) : Sem Next)) (h : m.run P w = .ok v w') : (execOp ρ o).run P w = .ok (.value v) w' := by
  simp only [execOp, ho, resolve, hc]
  show (builtin b c.argTypes o.type _ (c.args.map ρ)).run P w = _
  rw [hm]
  exact run_v h
theorem q_lenC {v : Nat} {m : Sem Value} (h : m.run P w = .ok (goInt v) w) : Ok P ι w (do pure (Next.value (← m))) (num (Int.ofNat v)) := ⟨_, run_v h, .int _ _⟩

theorem q_lenS {T : TypeId} {x : Operand} {c : Call} (ho : o.op = .call c) (hc : c.callee = .builtin .len) (ha : c.args = #[x]) (ht : c.argTypes[0]? = some T) (hT : P.underlying T = some .string) {b : List UInt8} (hx : VR ι (strOf b) (ρ x)) :
    Ok P ι w (execOp ρ o) (num (Int.ofNat (lenL b))) := by
  refine ⟨_, ?_, .int _ _⟩
  refine run_call_len ho hc (m := Builtin.len_ c.argTypes o.type (c.args.map ρ)) (fun _ => rfl) ?_
  rw [ha]
  simp only [List.map_toArray, List.map_cons, List.map_nil, Builtin.len_, ht, List.getElem?_toArray, List.getElem?_cons_zero, hx.strE, strOf]
  simp [run_underlying hT, Result.andThen, lenL_eq]
  rfl
theorem q_lenV {T E : TypeId} {x : Operand} {c : Call} (ho : o.op = .call c) (hc : c.callee = .builtin .len) (ha : c.args = #[x]) (ht : c.argTypes[0]? = some T) (hT : P.underlying T = some (.slice E)) {a : Option Addr} {n k : Nat} (hx : VR ι (.slice a n k) (ρ x)) :
    Ok P ι w (execOp ρ o) (num (Int.ofNat n)) := by
  have key : ∃ a' k', ρ x = .slice a' n k' := by
    generalize ρ x = X at hx
    cases hx <;> exact ⟨_, _, rfl⟩
  obtain ⟨a', k', e⟩ := key
  refine ⟨_, ?_, .int _ _⟩
  refine run_call_len ho hc (m := Builtin.len_ c.argTypes o.type (c.args.map ρ)) (fun _ => rfl) ?_
  rw [ha]
  simp only [List.map_toArray, List.map_cons, List.map_nil, Builtin.len_, ht, List.getElem?_toArray, List.getElem?_cons_zero, e]
  simp [run_underlying hT, Result.andThen, goInt]
theorem q_capV {T E : TypeId} {x : Operand} {c : Call} (ho : o.op = .call c) (hc : c.callee = .builtin .cap) (ha : c.args = #[x]) (ht : c.argTypes[0]? = some T) (hT : P.underlying T = some (.slice E)) {a : Option Addr} {n k : Nat} (hk : k ≠ open_) (hx : VR ι (.slice a n k) (ρ x)) :
    Ok P ι w (execOp ρ o) (num (Int.ofNat k)) := by
  have key : ∃ a', ρ x = .slice a' n k := by
    generalize ρ x = X at hx
    cases hx <;> first | exact ⟨_, rfl⟩ | exact absurd rfl hk
  obtain ⟨a', e⟩ := key
  refine ⟨_, ?_, .int _ _⟩
  refine run_call_len ho hc (m := Builtin.cap_ c.argTypes o.type (c.args.map ρ)) (fun _ => rfl) ?_
  rw [ha]
  simp only [List.map_toArray, List.map_cons, List.map_nil, Builtin.cap_, ht, List.getElem?_toArray, List.getElem?_cons_zero, e]
  simp [run_underlying hT, Result.andThen, goInt]
/-- The length, or the capacity, of an array: a constant. -/
theorem q_lenArr {T E : TypeId} {n : Nat} {x : Operand} {c : Call} {b : Builtin} (hb : b = .len ∨ b = .cap) (ho : o.op = .call c) (hc : c.callee = .builtin b) (ha : c.args = #[x]) (ht : c.argTypes[0]? = some T)
    (hT : P.underlying T = some (.array n E) ∨ ∃ A, P.underlying T = some (.pointer A) ∧ P.underlying A = some (.array n E)) : Ok P ι w (execOp ρ o) (num (Int.ofNat n)) := by
  refine ⟨_, ?_, .int _ _⟩
  rcases hb with rfl | rfl <;> rcases hT with hT | ⟨A, hT, hA⟩
  all_goals
    first
      | refine run_call_len ho hc (m := Builtin.len_ c.argTypes o.type (c.args.map ρ)) (fun _ => rfl) ?_
      | refine run_call_len ho hc (m := Builtin.cap_ c.argTypes o.type (c.args.map ρ)) (fun _ => rfl) ?_
    rw [ha]
    simp only [List.map_toArray, List.map_cons, List.map_nil, Builtin.len_, Builtin.cap_, ht, List.getElem?_toArray, List.getElem?_cons_zero]
    first
      | (simp [run_underlying hT, run_underlying hA, Result.andThen, goInt]; done)
      | (simp [run_underlying hT, Result.andThen, goInt]; done)

theorem run_sliceBound {X : Value} {n y : Nat} {c : BoundsCode} {v : Value} (h : asNat v = some n) (hx : VR ι v X) (hn : n ≤ y) : (Instr.sliceBound X y c).run P w = .ok n w := by
  obtain ⟨k, rfl⟩ := asNat_eq h
  rw [hx.intE]
  have h1 : (0 : Int) ≤ (n : Int) ∧ (n : Int) ≤ (y : Int) := by omega
  simp [Instr.sliceBound, asIntOf, h1, hn, Result.andThen]

/-- Bounds: what the machine finds, the model finds. -/
theorem bound_some {v : Option Value} {d most n : Nat} (h : bound v d most = some n) : (v = none ∧ n = d) ∨ ∃ x, v = some x ∧ asNat x = some n ∧ n ≤ most := by
  cases v with
  | none => cases h; exact .inl ⟨rfl, rfl⟩
  | some x =>
    obtain ⟨m, h1, h2⟩ := ob_eq.1 h
    obtain ⟨h3, h4⟩ := must_eq.1 h2
    cases h4
    exact .inr ⟨x, rfl, h1, by simpa [Nat.ble_eq] using h3⟩

/-- What stands for an operand that may be missing. -/
def OX (ι : Inj) (v : Option Value) (x : Option Value) : Prop := match v, x with
  | none, none => True
  | some v, some x => VR ι v x
  | _, _ => False

theorem run_sliceBounds {sl : Bool} {len cap m h l most1 : Nat} {lo hi mx : Option Value} {lo' hi' mx' : Option Value} (hm : bound mx cap most1 = some m) (hmc : most1 ≤ cap) (hh : bound hi len m = some h) (hl : bound lo 0 h = some l) (hmx : mx.isSome = true → hi.isSome = true)
    (o1 : OX ι lo lo') (o2 : OX ι hi hi') (o3 : OX ι mx mx') : (Instr.sliceBounds sl len cap lo' hi' mx').run P w = .ok (l, h, m) w := by
  have k1 : (mx = none ∧ mx' = none ∧ m = cap) ∨ ∃ y, mx.isSome = true ∧ mx' = some y ∧ ∀ c, (Instr.sliceBound y cap c).run P w = .ok m w := by
    rcases bound_some hm with ⟨rfl, rfl⟩ | ⟨x, rfl, h1, h2⟩
    · cases mx' with
      | none => exact .inl ⟨rfl, rfl, rfl⟩
      | some _ => exact o3.elim
    · cases mx' with
      | none => exact o3.elim
      | some y => exact .inr ⟨y, rfl, rfl, fun c => run_sliceBound h1 o3 (by omega)⟩
  have k2 : (hi = none ∧ hi' = none ∧ h = len) ∨ ∃ y, hi' = some y ∧ ∀ c, (Instr.sliceBound y m c).run P w = .ok h w := by
    rcases bound_some hh with ⟨rfl, rfl⟩ | ⟨x, rfl, h1, h2⟩
    · cases hi' with
      | none => exact .inl ⟨rfl, rfl, rfl⟩
      | some _ => exact o2.elim
    · cases hi' with
      | none => exact o2.elim
      | some y => exact .inr ⟨y, rfl, fun c => run_sliceBound h1 o2 h2⟩
  have k3 : (lo' = none ∧ l = 0) ∨ ∃ y, lo' = some y ∧ ∀ c, (Instr.sliceBound y h c).run P w = .ok l w := by
    rcases bound_some hl with ⟨rfl, rfl⟩ | ⟨x, rfl, h1, h2⟩
    · cases lo' with
      | none => exact .inl ⟨rfl, rfl⟩
      | some _ => exact o1.elim
    · cases lo' with
      | none => exact o1.elim
      | some y => exact .inr ⟨y, rfl, fun c => run_sliceBound h1 o1 h2⟩
  rcases k1 with ⟨rfl, rfl, rfl⟩ | ⟨y1, hy, rfl, f1⟩ <;> rcases k2 with ⟨rfl, rfl, rfl⟩ | ⟨y2, rfl, f2⟩ <;> rcases k3 with ⟨rfl, rfl⟩ | ⟨y3, rfl, f3⟩
  all_goals first
    | (exfalso; have := hmx hy; simp at this; done)
    | (unfold Instr.sliceBounds; simp [Result.andThen, *]; done)

/-- The slice of a slice, or of an array: with a capacity that is known. -/
theorem sliceExact_ok {sl : Bool} {size : Nat} {a a' : Option Addr} {len cap : Nat} (ha : (a = none ∧ a' = none ∧ len = 0 ∧ cap = 0) ∨ ∃ b b', a = some b ∧ a' = some b' ∧ AR ι b b' ∧ cap < open_) (hlc : len ≤ cap) {lo hi mx lo' hi' mx' : Option Value}
    (hmx : mx.isSome = true → hi.isSome = true) (o1 : OX ι lo lo') (o2 : OX ι hi hi') (o3 : OX ι mx mx') {v : Value} (h : sliceExact size a len cap lo hi mx = some v) :
    ∃ l h m, (Instr.sliceBounds sl len cap lo' hi' mx').run P w = .ok (l, h, m) w ∧ VR ι v (.slice (if m = l then a' else a'.map (·.add (l * size))) (h - l) (m - l)) := by
  unfold sliceExact at h
  obtain ⟨m, hm, h⟩ := ob_eq.1 h
  obtain ⟨hh, hhh, h⟩ := ob_eq.1 h
  obtain ⟨l, hl, h⟩ := om_eq.1 h
  subst h
  refine ⟨l, hh, m, run_sliceBounds hm (Nat.le_refl _) hhh hl hmx o1 o2 o3, ?_⟩
  have hmc : m ≤ cap := by
    rcases bound_some hm with ⟨_, rfl⟩ | ⟨_, _, _, h⟩ <;> omega
  have hhm : hh ≤ m := by
    rcases bound_some hhh with ⟨rfl, rfl⟩ | ⟨_, _, _, h⟩
    · rcases bound_some hm with ⟨_, rfl⟩ | ⟨_, rfl, _, h⟩
      · exact hlc
      · simp at hmx
    · exact h
  have hlh : l ≤ hh := by
    rcases bound_some hl with ⟨_, rfl⟩ | ⟨_, _, _, h⟩ <;> omega
  rcases ha with ⟨rfl, rfl, rfl, rfl⟩ | ⟨b, b', rfl, rfl, hb, hc⟩
  · obtain rfl : m = 0 := by omega
    obtain rfl : hh = 0 := by omega
    rw [cnd_eq]
    obtain rfl : l = 0 := by omega
    have e : (if (Nat.beq 0 0) = true then (none : Option Addr) else addO none (0 * size)) = none := by split <;> rfl
    rw [e]
    have e' : (if (0 : Nat) = 0 then (none : Option Addr) else (none : Option Addr).map (·.add (0 * size))) = none := by split <;> rfl
    rw [e']
    exact .slN
  · rw [cnd_eq]
    by_cases hml : m = l
    · rw [if_pos (by simp [Nat.beq_eq, hml]), if_pos hml]; exact .sl hb (by omega) (by omega)
    · rw [if_neg (by simp [hml]), if_neg hml]
      exact .sl (hb.add _) (by omega) (by omega)

theorem OX.of {fr : Fr} {x : Option Operand} (h : ∀ y, x = some y → VR ι ((rArg y).ev fr) (ρ y)) : OX ι (evO fr (x.map rArg)) (x.map ρ) := by
  cases x with
  | none => trivial
  | some y => exact h y rfl

theorem AR.le_open {a a' : Addr} {n : Nat} : True := trivial

/-- The slice of a slice whose capacity is not known. -/
theorem sliceOpen_ok (r : Rel ι base s w) {size : Nat} {a a' : Option Addr} {len cap : Nat} (hx : VR ι (.slice a len open_) (.slice a' len cap)) {lo hi mx lo' hi' mx' : Option Value}
    (hmx : mx.isSome = true → hi.isSome = true) (o1 : OX ι lo lo') (o2 : OX ι hi hi') (o3 : OX ι mx mx') {v : Value} (h : sliceOpen s size a len lo hi mx = some v) :
    ∃ l h m, (Instr.sliceBounds true len cap lo' hi' mx').run P w = .ok (l, h, m) w ∧ VR ι v (.slice (if m = l then a' else a'.map (·.add (l * size))) (h - l) (m - l)) := by
  unfold sliceOpen at h
  cases a with
  | none => cases h
  | some b =>
  rw [ob_some] at h
  obtain ⟨k, hk, H1⟩ := ob_eq.1 h
  obtain ⟨m, hm, H2⟩ := ob_eq.1 H1
  obtain ⟨hh, hhh, H3⟩ := ob_eq.1 H2
  obtain ⟨l, hl, H4⟩ := ob_eq.1 H3
  clear h H1 H2 H3
  obtain ⟨c, hc1, hk⟩ := ob_eq.1 hk
  obtain ⟨hc2, hk⟩ := must_eq.1 hk
  obtain ⟨hc3, hk⟩ := must_eq.1 hk
  rw [Nat.beq_eq] at hc2
  simp only [Option.some.injEq, lenL_eq] at hk
  have hg := asCells_eq hc1
  -- what the block has
  have key : ∃ b' B, a' = some b' ∧ ι b.block = some B ∧ b.spot = none ∧ k ≤ cap ∧ ((b' = ⟨B.b, B.sh + b.off, none⟩ ∧ B.sh + b.off + cap * size = B.n) ∨ (cap = 0 ∧ len = 0 ∧ B.sh + b.off = B.n)) := by
    cases hx with
    | sl _ hc _ => exact absurd hc (by simp)
    | @slO _ a2 _ _ B h1 hs ha hcap hn =>
      obtain ⟨cs', T, fr, g1, ⟨g2, g3, g4, g5⟩, g6⟩ := r.cells hg h1
      obtain ⟨g7, g8⟩ := g6.1 hc3
      refine ⟨a2, B, rfl, h1, hs, ?_, .inl ⟨ha, ?_⟩⟩
      · subst hk
        rw [g7, hc2, ha] at hcap
        simp only at hcap
        have : (c.1.length - b.off) ≤ cap * size := by omega
        exact Nat.div_le_of_le_mul (by rw [Nat.mul_comm]; exact this)
      · rw [g7, hc2, ha] at hcap; exact hcap
    | @slV _ a2 B h1 hs ha =>
      obtain ⟨cs', T, fr, g1, ⟨g2, g3, g4, g5⟩, g6⟩ := r.cells hg h1
      refine ⟨a2, B, rfl, h1, hs, ?_, .inr ⟨rfl, rfl, ha⟩⟩
      subst hk
      rw [show c.1.length - b.off = 0 by omega]; simp
  obtain ⟨b', B, rfl, hB, hs, hkc, hcase⟩ := key
  have hlh : l ≤ hh := by rcases bound_some hl with ⟨_, rfl⟩ | ⟨_, _, _, h⟩ <;> omega
  cases mx with
  | none =>
    cases hm
    cases H4
    cases mx' with
    | some _ => exact o3.elim
    | none =>
      -- the model's own bound is the capacity
      have hhh' : bound hi len cap = some hh := by
        rcases bound_some hhh with ⟨rfl, rfl⟩ | ⟨x, rfl, h1, h2⟩
        · rfl
        · simp only [bound, h1, ob_some]; rw [must_eq]; exact ⟨by rw [Nat.ble_eq]; omega, rfl⟩
      refine ⟨l, hh, cap, run_sliceBounds (mx := none) (most1 := cap) rfl (Nat.le_refl _) hhh' hl (by simp) o1 o2 trivial, ?_⟩
      have hhc : hh ≤ cap ∨ (hi = none ∧ hh = len) := by
        rcases bound_some hhh' with ⟨rfl, rfl⟩ | ⟨x, rfl, h1, h2⟩
        · exact .inr ⟨rfl, rfl⟩
        · exact .inl h2
      have hlen : len ≤ cap := by
        cases hx with
        | sl _ hc _ => exact absurd hc (by simp)
        | slO _ _ _ _ hn => exact hn
        | slV => omega
      have hhc' : hh ≤ cap := by rcases hhc with h | ⟨_, rfl⟩ <;> omega
      have hoff : ∀ n, (b.add n).off = b.off + n := by intro n; unfold Addr.add; split <;> simp_all
      have hblk : ∀ n, (b.add n).block = b.block := by intro n; unfold Addr.add; split <;> rfl
      have hsp : ∀ n, (b.add n).spot = none := by intro n; unfold Addr.add; split <;> simp_all
      by_cases hcl : cap = l
      · subst hcl
        obtain rfl : hh = cap := by omega
        rw [if_pos rfl, Nat.sub_self]
        refine .slV (by rw [hblk]; exact hB) (hsp _) ?_
        rw [hoff]
        rcases hcase with ⟨_, h⟩ | ⟨h0, _, h⟩
        · omega
        · rw [h0]; omega
      · rw [if_neg hcl]
        rcases hcase with ⟨rfl, hn⟩ | ⟨h0, _, h⟩
        · refine .slO (B := B) (by rw [hblk]; exact hB) (hsp _) ?_ ?_ (by omega)
          · rw [hoff]; unfold Addr.add; split
            · simp_all
            · simp [Nat.add_assoc]
          · have : ((⟨B.b, B.sh + b.off, none⟩ : Addr).add (l * size)).off = B.sh + b.off + l * size := by unfold Addr.add; split <;> simp_all
            rw [this]
            obtain ⟨cs', T, fr, g1, ⟨g2, g3, g4, g5⟩, g6⟩ := r.cells hg hB
            obtain ⟨g7, g8⟩ := g6.1 hc3
            rw [g7, hc2, Nat.sub_mul]
            have : l * size ≤ cap * size := Nat.mul_le_mul_right _ (by omega)
            omega
        · omega
  | some mv =>
    obtain ⟨h1, H5⟩ := must_eq.1 H4
    obtain ⟨h2, H6⟩ := must_eq.1 H5
    cases H6
    rw [Nat.ble_eq] at h2
    have hlm : l ≠ m := fun e => by subst e; rw [show Nat.beq l l = true from by rw [Nat.beq_eq]] at h1; simp at h1
    rcases bound_some hm with ⟨h, _⟩ | ⟨x, hx1, h3, h4⟩
    · cases h
    · have hm' : bound (some mv) cap k = some m := by
        simp only [Option.some.injEq] at hx1; subst hx1
        simp only [bound, h3, ob_some]; rw [must_eq]; exact ⟨by rw [Nat.ble_eq]; exact h4, rfl⟩
      refine ⟨l, hh, m, run_sliceBounds hm' hkc hhh hl hmx o1 o2 o3, ?_⟩
      rw [if_neg (by omega)]
      rcases hcase with ⟨rfl, hn⟩ | ⟨h0, _, h⟩
      · have : AR ι b ⟨B.b, B.sh + b.off, none⟩ := ⟨B, hB, hs, rfl⟩
        have hhm : hh ≤ m := by
          rcases bound_some hhh with ⟨h, _⟩ | ⟨_, _, _, h⟩
          · rw [h] at hmx; simp at hmx
          · exact h
        have hro : room < open_ := by decide
        refine .sl (this.add _) ?_ ?_ <;> omega
      · have : hh ≤ m := by
          rcases bound_some hhh with ⟨h, _⟩ | ⟨_, _, _, h⟩
          · rw [h] at hmx; simp at hmx
          · exact h
        omega

theorem q_sliceV (r : Rel ι base s w) {fr : Fr} {T E : TypeId} {size : Nat} {x : Operand} {lo hi mx : Option Operand} (ho : o.op = .slice T x lo hi mx) (hT : P.underlying T = some (.slice E)) (hE : sizeOf? P E = some size)
    (hmx : mx.isSome = true → hi.isSome = true) {X : Value} (hx : VR ι X (ρ x)) (o1 : ∀ y, lo = some y → VR ι ((rArg y).ev fr) (ρ y)) (o2 : ∀ y, hi = some y → VR ι ((rArg y).ev fr) (ρ y)) (o3 : ∀ y, mx = some y → VR ι ((rArg y).ev fr) (ρ y))
    {v : Value} (h : sliceOp s size X (evO fr (lo.map rArg)) (evO fr (hi.map rArg)) (evO fr (mx.map rArg)) = some v) : Ok P ι w (execOp ρ o) v := by
  obtain ⟨⟨a0, n0, c0⟩, hp, H1⟩ := ob_eq.1 h
  have hx : VR ι (.slice a0 n0 c0) (ρ x) := by rw [asSl_eq hp] at hx; exact hx
  simp only at H1
  have hsome : ∀ y : Option Operand, (evO fr (y.map rArg)).isSome = y.isSome := by intro y; cases y <;> rfl
  have hmx' : (evO fr (mx.map rArg)).isSome = true → (evO fr (hi.map rArg)).isSome = true := by rw [hsome, hsome]; exact hmx
  have key : ∃ a' c', ρ x = .slice a' n0 c' ∧ ∃ l h m, (Instr.sliceBounds true n0 c' (lo.map ρ) (hi.map ρ) (mx.map ρ)).run P w = .ok (l, h, m) w ∧ VR ι v (.slice (if m = l then a' else a'.map (·.add (l * size))) (h - l) (m - l)) := by
    rw [cnd_eq] at H1
    split at H1
    · rename_i hc
      rw [Nat.beq_eq] at hc
      rw [hc] at hx
      have hx2 := hx
      generalize ρ x = Y at hx hx2
      have : ∃ a' c', Y = .slice a' n0 c' := by cases hx <;> exact ⟨_, _, rfl⟩
      obtain ⟨a', c', rfl⟩ := this
      exact ⟨a', c', rfl, sliceOpen_ok r hx2 hmx' (OX.of o1) (OX.of o2) (OX.of o3) H1⟩
    · rename_i hc
      have hc' : c0 ≠ open_ := by rw [Nat.beq_eq] at hc; exact hc
      generalize ρ x = Y at hx
      have : ∃ a', Y = .slice a' n0 c0 ∧ ((a0 = none ∧ a' = none ∧ n0 = 0 ∧ c0 = 0) ∨ ∃ b b', a0 = some b ∧ a' = some b' ∧ AR ι b b' ∧ c0 < open_) ∧ n0 ≤ c0 := by
        cases hx with
        | slN => exact ⟨_, rfl, .inl ⟨rfl, rfl, rfl, rfl⟩, Nat.le_refl _⟩
        | sl e1 e2 e3 => exact ⟨_, rfl, .inr ⟨_, _, rfl, rfl, e1, e2⟩, e3⟩
        | slO => exact absurd rfl hc'
        | slV => exact absurd rfl hc'
      obtain ⟨a', rfl, ha, hle⟩ := this
      exact ⟨a', _, rfl, sliceExact_ok ha hle hmx' (OX.of o1) (OX.of o2) (OX.of o3) H1⟩
  obtain ⟨a', c', e, l, hh, m, g1, g2⟩ := key
  refine ⟨_, ?_, g2⟩
  simp only [execOp, ho]
  refine run_v ?_
  rw [e]
  simp [Instr.sliceAt, Instr.slice, run_underlying hT, run_sizeOf hE, g1, Result.andThen]

theorem q_sliceA {fr : Fr} {T E : TypeId} {n size : Nat} {x : Operand} {lo hi mx : Option Operand} (ho : o.op = .slice T x lo hi mx) (hT : P.underlying T = some (.array n E)) (hE : sizeOf? P E = some size) (hn : n < open_)
    (hmx : mx.isSome = true → hi.isSome = true) {a : Addr} (hx : VR ι (.pointer (some a)) (ρ x)) (o1 : ∀ y, lo = some y → VR ι ((rArg y).ev fr) (ρ y)) (o2 : ∀ y, hi = some y → VR ι ((rArg y).ev fr) (ρ y)) (o3 : ∀ y, mx = some y → VR ι ((rArg y).ev fr) (ρ y))
    {v : Value} (h : sliceExact size (some a) n n (evO fr (lo.map rArg)) (evO fr (hi.map rArg)) (evO fr (mx.map rArg)) = some v) : Ok P ι w (execOp ρ o) v := by
  obtain ⟨a', e, ha⟩ := hx.ptrE
  have hsome : ∀ y : Option Operand, (evO fr (y.map rArg)).isSome = y.isSome := by intro y; cases y <;> rfl
  have hmx' : (evO fr (mx.map rArg)).isSome = true → (evO fr (hi.map rArg)).isSome = true := by rw [hsome, hsome]; exact hmx
  obtain ⟨l, hh, m, g1, g2⟩ := sliceExact_ok (P := P) (w := w) (sl := false) (a' := some a') (.inr ⟨a, a', rfl, rfl, ha, hn⟩) (Nat.le_refl _) hmx' (OX.of o1) (OX.of o2) (OX.of o3) h
  have e2 : (if m = l then some a' else (some a').map (·.add (l * size))) = some (if m = l then a' else a'.add (l * size)) := by split <;> rfl
  rw [e2] at g2
  refine ⟨_, ?_, g2⟩
  simp only [execOp, ho]
  refine run_v ?_
  rw [e]
  simp [Instr.sliceAt, Instr.sureAddr, run_underlying hT, run_sizeOf hE, g1, Result.andThen]

theorem q_sliceS {fr : Fr} {T : TypeId} {x : Operand} {lo hi : Option Operand} (ho : o.op = .slice T x lo hi none) (hT : P.underlying T = some .string) {b : List UInt8} (hx : VR ι (strOf b) (ρ x))
    (o1 : ∀ y, lo = some y → VR ι ((rArg y).ev fr) (ρ y)) (o2 : ∀ y, hi = some y → VR ι ((rArg y).ev fr) (ρ y)) {h l : Nat} (h1 : bound (evO fr (hi.map rArg)) b.length b.length = some h) (h2 : bound (evO fr (lo.map rArg)) 0 h = some l) :
    Ok P ι w (execOp ρ o) (strOf ((b.drop l).take (h - l))) := by
  have hb : (⟨⟨b⟩⟩ : ByteArray).size = b.length := rfl
  have g1 : (Instr.sliceBounds false b.length b.length (lo.map ρ) (hi.map ρ) none).run P w = .ok (l, h, b.length) w :=
    run_sliceBounds (mx := none) (most1 := b.length) rfl (Nat.le_refl _) h1 h2 (by simp) (OX.of o1) (OX.of o2) trivial
  refine ⟨_, ?_, .string _⟩
  simp only [execOp, ho]
  refine run_v ?_
  rw [hx.strE]
  have e : (⟨⟨b⟩⟩ : ByteArray).extract l h = ⟨⟨(b.drop l).take (h - l)⟩⟩ := by
    apply ByteArray.ext
    rw [ByteArray.data_extract]
    simp [List.extract_eq_take_drop]
  simp [Instr.sliceAt, Instr.slice, run_underlying hT, strOf, hb, g1, e, Result.andThen]
end
end Go.Ev
