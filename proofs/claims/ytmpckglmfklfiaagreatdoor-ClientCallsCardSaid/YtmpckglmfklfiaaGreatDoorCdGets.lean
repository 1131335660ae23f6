/-
  Is a call too long; are two calls the same; which call bytes are, on both sides.
-/
import Derived.Test.YtmpckglmfklfiaaGreatDoorCdRef2
set_option linter.unusedVariables false
set_option linter.unusedSimpArgs false
namespace Go.Ev
noncomputable section
def CallC.long (c : CallC) (l : List UInt8) : Bool := decide ((60 : Int) < (c.do_.length : Nat)) || (decide ((60 : Int) < (c.name.length : Nat)) || (decide ((60 : Int) < (c.to.length : Nat)) || decide ((500 : Int) < (l.length : Nat))))
section
variable {E : Env} {f : FuncId} {s : St} {v w u : Value} {l : List UInt8}
set_option maxHeartbeats 4000000 in
theorem LongCall_run (hf : Has E f Code.tithinglaw26_LongCall) (c : CallC) (hw : Sl s s.next 1 w (l.map ofByte)) : Cv E f [.agg ⟨c.cells w⟩] s fun r s' => r = .bool (c.long l) ∧ Low s.next s s' := by
  obtain ⟨p, n, k, rfl, hn⟩ := hw.parts
  have hnl : n = l.length := by rw [List.length_map] at hn; omega
  subst hnl
  refine Cv_of hf.code ?_
  have h0 : (Tr.ofList (.e : Fr) 0 [.agg ⟨c.cells (.slice p l.length k)⟩]).get 0 = some (.agg ⟨c.cells (.slice p l.length k)⟩) := rfl
  generalize (Tr.ofList (.e : Fr) 0 [.agg ⟨c.cells (.slice p l.length k)⟩]) = fr0 at h0
  unfold Code.tithinglaw26_LongCall
  refine W_seq (W_ops (Wo_box (lo := s.next) (s0 := s) (z := c.cells (.slice p l.length k)) (by simp only [sims, Int.reduceEq, Nat.reduceEqDiff, h0]; rfl) rfl rfl ((Low.self s).skip 2) (Nat.le_add_right _ _) (by rw [next_skip]; omega) fun s1 B1 n1 _ => Wo_all (by simp only [sims, Int.reduceEq, Nat.reduceEqDiff]; rfl) ?_))
  rw [Nat.add_zero] at B1
  have d0 : s1.cell ⟨s.next, 0, none⟩ = some (strOf c.do_) := B1.cell
  have d3 : s1.cell ⟨s.next, 3, none⟩ = some (strOf c.name) := B1.cell
  have d4 : s1.cell ⟨s.next, 4, none⟩ = some (strOf c.to) := B1.cell
  have d18 : s1.cell ⟨s.next, 18, none⟩ = some (.slice p l.length k) := B1.cell
  unfold CallC.long
  cases q0 : decide ((60 : Int) < (c.do_.length : Nat)) <;> cases q1 : decide ((60 : Int) < (c.name.length : Nat)) <;> cases q2 : decide ((60 : Int) < (c.to.length : Nat)) <;> cases q3 : decide ((500 : Int) < (l.length : Nat)) <;>
    exact W_seq (W_region (by simp only [sims, Int.reduceEq, Nat.reduceEqDiff, d0, d3, d4, d18, lenL_eq, Int.ofNat_eq_natCast, q0, q1, q2, q3]; rfl) (W_ret ⟨rfl, _, res_tmp res_nil, by simp only [sims, Int.reduceEq, Nat.reduceEqDiff, tupled]; try rfl, B1.low⟩))
end
end
end Go.Ev
