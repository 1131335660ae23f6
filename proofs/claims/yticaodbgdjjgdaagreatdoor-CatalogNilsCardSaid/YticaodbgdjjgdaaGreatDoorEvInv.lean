/-
  What a value is, told by the machine's own questions; and what stands for it in the world.
-/
import Derived.Test.YticaodbgdjjgdaaGreatDoorEvRel
set_option linter.unusedVariables false
set_option linter.unusedSimpArgs false
namespace Go.Ev

theorem asInt_eq {v : Value} {p : IntKind × Int} (h : asInt v = some p) : v = .int p.1 p.2 := by
  cases v <;> simp only [asInt] at h <;> cases h <;> rfl
theorem asStr_eq {v : Value} {l : List UInt8} (h : asStr v = some l) : v = strOf l := by
  cases v <;> simp only [asStr] at h <;> cases h <;> rfl
theorem asBool_eq {v : Value} {b : Bool} (h : asBool v = some b) : v = .bool b := by
  cases v <;> simp only [asBool] at h <;> cases h <;> rfl
theorem asPtr_eq {v : Value} {a : Option Addr} (h : asPtr v = some a) : v = .pointer a := by
  cases v <;> simp only [asPtr] at h <;> cases h <;> rfl
theorem asAddr_eq {v : Value} {a : Addr} (h : asAddr v = some a) : v = .pointer (some a) := by
  cases v <;> simp only [asAddr] at h <;> cases h <;> rfl
theorem asAgg_eq {v : Value} {l : List Value} (h : asAgg v = some l) : v = .agg ⟨l⟩ := by
  cases v <;> simp only [asAgg] at h <;> cases h <;> rfl
theorem asTup_eq {v : Value} {l : List Value} (h : asTup v = some l) : v = .tuple ⟨l⟩ := by
  cases v <;> simp only [asTup] at h <;> cases h <;> rfl
theorem asMap_eq {v : Value} {r : Option Nat} (h : asMap v = some r) : v = .map r := by
  cases v <;> simp only [asMap] at h <;> cases h <;> rfl
theorem asSl_eq {v : Value} {p : Option Addr × Nat × Nat} (h : asSl v = some p) : v = .slice p.1 p.2.1 p.2.2 := by
  cases v <;> simp only [asSl] at h <;> cases h <;> rfl
theorem asNat_eq {v : Value} {n : Nat} (h : asNat v = some n) : ∃ k, v = .int k n := by
  cases v <;> simp only [asNat] at h <;> try cases h
  rename_i k m
  cases m <;> cases h
  exact ⟨k, rfl⟩
theorem asFunc_eq {v : Value} {p : Fn × List Value × List Value} (h : asFunc v = some p) : v = .func p.1 ⟨p.2.1⟩ ⟨p.2.2⟩ := by
  cases v <;> simp only [asFunc] at h <;> cases h <;> rfl

theorem VR.intE {ι : Inj} {k : IntKind} {n : Int} {v : Value} (h : VR ι (.int k n) v) : v = .int k n := by cases h; rfl
theorem VR.strE {ι : Inj} {l : List UInt8} {v : Value} (h : VR ι (strOf l) v) : v = strOf l := by unfold strOf at h; cases h; rfl
theorem VR.boolE {ι : Inj} {b : Bool} {v : Value} (h : VR ι (.bool b) v) : v = .bool b := by cases h; rfl
theorem VR.ptrNE {ι : Inj} {v : Value} (h : VR ι (.pointer none) v) : v = .pointer none := by cases h; rfl
theorem VR.ptrE {ι : Inj} {a : Addr} {v : Value} (h : VR ι (.pointer (some a)) v) : ∃ a', v = .pointer (some a') ∧ AR ι a a' := by cases h; exact ⟨_, rfl, ‹_›⟩
theorem VR.mapE {ι : Inj} {r : Option Nat} {v : Value} (h : VR ι (.map r) v) : (r = none ∧ v = .map none) ∨ ∃ q B, r = some q ∧ ι q = some B ∧ v = .map (some B.b) := by
  cases h with
  | mapN => exact .inl ⟨rfl, rfl⟩
  | map h => exact .inr ⟨_, _, rfl, h, rfl⟩

/-- What the temporaries hold. -/
structure FR (ι : Inj) (fr : Fr) (nt : Nat) (tmps : Array Value) : Prop where
  size : nt ≤ tmps.size
  val : ∀ t, VR ι (orUndef (fr.get t)) (tmps.getD t Go.undef)
theorem FR.mono {ι κ : Inj} (h : ι.le κ) {fr : Fr} {nt : Nat} {tmps : Array Value} (r : FR ι fr nt tmps) : FR κ fr nt tmps := ⟨r.size, fun t => (r.val t).mono h⟩
theorem FR.set {ι : Inj} {fr : Fr} {nt : Nat} {tmps : Array Value} (r : FR ι fr nt tmps) {d : Nat} (hd : d < nt) {v v' : Value} (h : VR ι v v') : FR ι (Tr.set fr d v) nt (tmps.setIfInBounds d v') := by
  refine ⟨by rw [Array.size_setIfInBounds]; exact r.size, fun t => ?_⟩
  rw [Tr.get_set]
  by_cases ht : d = t
  · subst ht
    rw [if_pos rfl, Array.getD_eq_getD_getElem?, Array.getElem?_setIfInBounds, if_pos rfl, if_pos (Nat.lt_of_lt_of_le hd r.size)]
    exact h
  · rw [if_neg ht, Array.getD_eq_getD_getElem?, Array.getElem?_setIfInBounds, if_neg ht, ← Array.getD_eq_getD_getElem?]
    exact r.val t
theorem FR.put {ι : Inj} {fr : Fr} {nt : Nat} {a : Act} (r : FR ι fr nt a.tmps) {d : Option Nat} (hd : ∀ x, d = some x → x < nt) {v v' : Value} (h : VR ι v v') : FR ι (putD fr d v) nt (a.put d v').tmps := by
  cases d with
  | none => exact r
  | some d => exact r.set (hd d rfl) h

/-- Each package-level variable has its number for itself. -/
def Globs (P : Program) (ι : Inj) : Prop := ∀ g, g < P.globals.size → ∃ B, ι g = some B ∧ B.b = g ∧ B.sh = 0
theorem Globs.mono {P : Program} {ι κ : Inj} (h : ι.le κ) (g : Globs P ι) : Globs P κ := fun i hi => let ⟨B, h1, h2⟩ := g i hi; ⟨B, h _ _ h1, h2⟩

theorem arg_ok {P : Program} {ι : Inj} {fr : Fr} {nt : Nat} {a : Act} (hf : FR ι fr nt a.tmps) (hg : Globs P ι) {x : Operand} (hx : plainX P x = true) : VR ι ((rArg x).ev fr) (a.eval x) := by
  cases x with
  | tmp t => exact hf.val t
  | const v => exact .plainV hx
  | global g =>
    obtain ⟨B, h1, h2, h3⟩ := hg g (by simpa [plainX] using hx)
    exact .ptr ⟨B, h1, rfl, by simp [h2, h3]⟩
  | func f => exact .func (f := .func f) (f' := .func f) (a := []) (a' := []) (c := []) (c' := []) rfl rfl (by simp) rfl (by simp)
end Go.Ev
