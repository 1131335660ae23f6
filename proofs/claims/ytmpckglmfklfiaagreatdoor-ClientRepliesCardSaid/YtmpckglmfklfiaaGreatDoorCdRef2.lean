/-
  Rights and a call out of bytes, the document's side.
-/
import Derived.Test.YtmpckglmfklfiaaGreatDoorCdRefR
set_option linter.unusedVariables false
set_option linter.unusedSimpArgs false
namespace Go.Ev
noncomputable section
section
variable {E : Env} {s0 s : St} {tr tb to_ hi a c d : Nat} {v : Value} {l : List UInt8} {zs cs : List Value} {fr : Fr} {x y : Nat × Int} {Q : Ex → Fr → St → Prop}
theorem Gt.val (G : Gt s0 tr tb to_ hi a c d v l zs fr s x cs) {g t1 t2 t3 i : Nat} {xs : List Arg} {ws : List Value} {w : Value} (hp : E.prim g = none) (hw : ∀ fr, evL fr xs = ws)
    (h : Cv E g (ptr a 0 :: ws) s fun r s' => r = w ∧ Rd s' hi a v l y ∧ But a s s') (hs : storable w = true) (hv : vcells w = [w]) (hi' : i + 1 ≤ cs.length)
    (hd : (t1 ≠ tr ∧ t1 ≠ tb ∧ t1 ≠ to_) ∧ (t2 ≠ tr ∧ t2 ≠ tb ∧ t2 ≠ to_) ∧ (t3 ≠ tr ∧ t3 ≠ tb ∧ t3 ≠ to_) ∧ t2 ≠ t1 ∧ t3 ≠ t2)
    (k : ∀ fr' s', (∀ t, t ≠ t1 → t ≠ t2 → t ≠ t3 → fr'.get t = fr.get t) → Gt s0 tr tb to_ hi a c d v l zs fr' s' y (splice cs i [w]) → Q .normal fr' s') :
    W E (.many 0 ([⟨some t1, .mov (.t tr), none, 0, []⟩] ++ (⟨some t2, .callF g (.t t1 :: xs), none, 1, []⟩ :: [⟨some t3, .faddr i (.t tb), none, 2, []⟩, ⟨none, .store 1 (.t t3) (.t t2), none, 3, []⟩]))) fr s Q :=
  G.field (P := fun r _ => r = w) hp hw h (by rintro _ _ rfl; exact ⟨hs, by rw [hv]; rfl⟩) hi' hd (by
    rintro _ fr' s1 s' rfl _ hk G'
    rw [hv] at G'
    exact k fr' s' hk G')
end
section
variable {E : Env} {f : FuncId} {s t : St} {hi a : Nat} {v : Value} {l : List UInt8} {x : Nat × Int}
end
end
end Go.Ev
