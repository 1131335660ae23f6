/-
  Rights as bytes, the program's side: Valid, PutRights, GetRights.
-/
import Derived.Test.YtmpckglmfklfiaaGreatDoorCdCat
set_option linter.unusedVariables false
set_option linter.unusedSimpArgs false
namespace Go.Ev
noncomputable section
def validR (o g fo fg fa : Int) : Prop := 0 ≤ o ∧ 0 ≤ g ∧ (0 ≤ fo ∧ fo ≤ 7) ∧ (0 ≤ fg ∧ fg ≤ 7) ∧ (0 ≤ fa ∧ fa ≤ 7)
instance (o g fo fg fa : Int) : Decidable (validR o g fo fg fa) := by unfold validR; infer_instance
section
variable {E : Env} {f : FuncId} {s : St} {o g fo fg fa : Int} {b : Bool}
def okR (o g fo fg fa : Int) : Prop := validR o g fo fg fa ∧ o < 4294967296 ∧ g < 4294967296
instance (o g fo fg fa : Int) : Decidable (okR o g fo fg fa) := by unfold okR; infer_instance
def bytesR (o g fo fg fa : Int) (b : Bool) : List UInt8 := beB 4 o.toNat ++ (beB 4 g.toNat ++ [UInt8.ofNat fo.toNat, UInt8.ofNat fg.toNat, UInt8.ofNat fa.toNat, if b then 1 else 0])
end
end
end Go.Ev
