/-
  The bytes of a reply, on both sides.
-/
import Derived.Test.YtmpckglmfklfiaaGreatDoorCdRefPut4
import Derived.Test.YtmpckglmfklfiaaGreatDoorCdReplyGets
set_option linter.unusedVariables false
set_option linter.unusedSimpArgs false
namespace Go.Ev
open Int renaming reduceEq → rI
open Nat renaming reduceEqDiff → rN
noncomputable section
section
variable {E : Env} {f : FuncId} {s t : St} {v w u : Value} {l : List UInt8} {its : List ItemC} {c0 : Nat}
def ItemC.longI (i : ItemC) : Bool := decide ((60 : Int) < (i.name.length : Nat))
def ReplyC.long (c : ReplyC) (l : List UInt8) (its : List ItemC) : Bool :=
  its.any ItemC.longI || ((decide ((2000 : Int) < (c.text.length : Nat)) || decide ((2000 : Int) < (l.length : Nat))) || decide ((60 : Int) < (its.length : Nat)))
theorem long_loop {cs : List Value} {hi : Nat} (hits : its.length < 4611686018427387904) (hc : Row t c0 cs) (h4 : cs[4]? = some u) (hu : Sl t hi 4 u (itemsC its)) {Q : Ex → Fr → St → Prop}
    (hbad : ∀ fr, its.any ItemC.longI = true → fr.get 2 = some (.bool true) → Q .ret fr t)
    (hok : ∀ fr, its.any ItemC.longI = false → fr.get 1 = some (ptr c0 0) → Q (.exit 0) fr t) : ∀ (k : Nat) (fr : Fr) (t' : St), (∃ i, k = its.length - i ∧ t' = t ∧ i ≤ its.length ∧ (its.take i).any ItemC.longI = false ∧ fr.get 1 = some (ptr c0 0) ∧ fr.get 3 = some (.int .i64 (i : Nat))) → W E (.loop Code.tithinglaw26_longReply_l0) fr t' Q := by
  refine W_inv _ ?_
  rintro k fr t' ⟨i, rfl, ht, hle, hany, g1, g3⟩
  rw [ht]; clear ht t'
  obtain ⟨p, n, kk, rfl, hn⟩ := hu.parts
  have hnl : n = its.length := by rw [itemsC_length] at hn; omega
  subst hnl
  have d4 : t.cell ⟨c0, 4, none⟩ = some (.slice p its.length kk) := (hc.cell 4).trans h4
  unfold Code.tithinglaw26_longReply_l0
  by_cases hlt : i < its.length
  case neg =>
    have hi : i = its.length := by omega
    have d : decide (((i : Nat) : Int) < ((its.length : Nat) : Int)) = false := by simp; omega
    refine W_seq (W_seq (W_region (by simp only [sims, rI, rN, g3, g1, d4, d, Int.ofNat_eq_natCast]; rfl) (W_else (by simp only [sims, rI, rN]) (W_exit ?_))))
    subst hi
    rw [List.take_length] at hany
    exact hok _ hany (by simp only [sims, rI, rN, g1])
  have d : decide (((i : Nat) : Int) < ((its.length : Nat) : Int)) = true := by simp; omega
  refine W_seq (W_seq (W_region (by simp only [sims, rI, rN, g3, g1, d4, d, Int.ofNat_eq_natCast]; rfl) (W_then (by simp only [sims, rI, rN]) (W_skip ?_))))
  have hbl : Nat.blt i its.length = true := by rw [Nat.blt_eq]; exact hlt
  have hmem : its[i] ∈ its := List.getElem_mem hlt
  have hcells := itemsC_get hlt
  have ht : its.take (i + 1) = its.take i ++ [its[i]] := List.take_succ_eq_append_getElem hlt
  generalize hX : its[i] = X at hmem hcells ht
  obtain ⟨a', rfl, hcell⟩ := hu.cell (i := i * 4 + 2) (by rw [itemsC_length]; omega)
  have x2 : t.cell ((a'.add (i * 4)).add 2) = some (strOf X.name) := by
    rw [add_two, hcell]
    have : X.cells[2]? = some (strOf X.name) := rfl
    rw [← this, ← hcells, List.getElem?_take_of_lt (by decide), List.getElem?_drop]
  cases q : decide ((60 : Int) < (X.name.length : Nat)) with
  | true =>
    refine W_seq (W_block (W_seq (W_region (by simp only [sims, rI, rN, g1, g3, d4, hbl, x2, lenL_eq, Int.ofNat_eq_natCast, q]; rfl) (W_then (by simp only [sims, rI, rN]) (W_seq (W_region (by simp only [sims, rI, rN]; rfl) (W_ret ?_)))))))
    exact hbad _ (List.any_eq_true.2 ⟨X, hmem, q⟩) (by simp only [sims, rI, rN])
  | false =>
    refine W_seq (W_block (W_seq (W_region (by simp only [sims, rI, rN, g1, g3, d4, hbl, x2, lenL_eq, Int.ofNat_eq_natCast, q]; rfl) (W_else (by simp only [sims, rI, rN]) (W_skip ?_)))))
    have e1 : wr .i64 (((i : Nat) : Int) + 1) = ((i + 1 : Nat) : Int) := by rw [wr_i64 (by omega) (by omega)]; omega
    refine W_region (by simp only [sims, rI, rN, g3, e1]; rfl) ?_
    refine ⟨its.length - (i + 1), by omega, i + 1, rfl, rfl, by omega, ?_, by simp only [sims, rI, rN, g1], by simp only [sims, rI, rN]⟩
    rw [ht, List.any_append, hany]
    simp [ItemC.longI, q]
theorem longReply_run (hf : Has E f Code.tithinglaw26_longReply) (c : ReplyC) (hits : its.length < 4611686018427387904) (hw : Sl s s.next 1 w (l.map ofByte)) (hu : Sl s s.next 4 u (itemsC its)) : Cv E f [.agg ⟨c.cells w u⟩] s fun r s' => r = .bool (c.long l its) ∧ Low s.next s s' := by
  obtain ⟨p, n, k, rfl, hn⟩ := hw.parts
  have hnl : n = l.length := by rw [List.length_map] at hn; omega
  subst hnl
  have hu0 := hu
  obtain ⟨pu, nu, ku, rfl, hnu⟩ := hu.parts
  have hnl : nu = its.length := by rw [itemsC_length] at hnu; omega
  subst hnl
  refine Cv_of hf.code ?_
  have h0 : (Tr.ofList (.e : Fr) 0 [.agg ⟨c.cells (.slice p l.length k) (.slice pu its.length ku)⟩]).get 0 = some (.agg ⟨c.cells (.slice p l.length k) (.slice pu its.length ku)⟩) := rfl
  generalize (Tr.ofList (.e : Fr) 0 [.agg ⟨c.cells (.slice p l.length k) (.slice pu its.length ku)⟩]) = fr0 at h0
  unfold Code.tithinglaw26_longReply
  refine W_seq (W_ops (Wo_box (lo := s.next) (s0 := s) (z := c.cells (.slice p l.length k) (.slice pu its.length ku)) (by simp only [sims, rI, rN, h0]; rfl) rfl rfl ((Low.self s).skip 2) (Nat.le_add_right _ _) (by rw [next_skip]; omega) fun s1 B1 n1 _ => Wo_all (by simp only [sims, rI, rN]; rfl) ?_))
  rw [Nat.add_zero] at B1
  have d2 : s1.cell ⟨s.next, 2, none⟩ = some (strOf c.text) := B1.cell
  have d3 : s1.cell ⟨s.next, 3, none⟩ = some (.slice p l.length k) := B1.cell
  have d4 : s1.cell ⟨s.next, 4, none⟩ = some (.slice pu its.length ku) := B1.cell
  refine W_seq (W_seq (W_region (by simp only [sims, rI, rN]; rfl) (W_block ?_)))
  show W E (.loop Code.tithinglaw26_longReply_l0) _ s1 _
  refine long_loop (c0 := s.next) hits B1.at_ rfl (hu0.low B1.low (Nat.le_refl _)) ?_ ?_ its.length _ s1 ⟨0, by simp, rfl, Nat.zero_le _, by simp, by simp only [sims, rI, rN], by simp only [sims, rI, rN]; rfl⟩
  · intro fr hb g2
    refine ⟨rfl, _, res_tmp res_nil, ?_, B1.low⟩
    unfold ReplyC.long
    rw [hb, Bool.true_or]
    simp only [sims, rI, rN, g2]; rfl
  intro fr hb g1
  unfold ReplyC.long
  rw [hb, Bool.false_or]
  show W E _ fr s1 _
  cases q0 : decide ((2000 : Int) < (c.text.length : Nat)) <;> cases q1 : decide ((2000 : Int) < (l.length : Nat)) <;> cases q2 : decide ((60 : Int) < (its.length : Nat)) <;>
    exact W_seq (W_region (by simp only [sims, rI, rN, g1, d2, d3, d4, lenL_eq, Int.ofNat_eq_natCast, q0, q1, q2]; rfl) (W_ret ⟨rfl, _, res_tmp res_nil, by simp only [sims, rI, rN, tupled]; try rfl, B1.low⟩))
def putRM (c : ReplyC) (l : List UInt8) (its : List ItemC) : List UInt8 := if c.ok l its then c.bytes l its else []
def putRX (c : ReplyC) (l : List UInt8) (its : List ItemC) : Int := if c.ok l its then 0 else 2
theorem longR_false {c : ReplyC} (h : c.long l its = false) : c.text.length ≤ 2000 ∧ l.length ≤ 2000 ∧ its.length ≤ 60 ∧ ∀ i ∈ its, i.name.length ≤ 60 := by
  unfold ReplyC.long at h
  simp only [Bool.or_eq_false_iff, decide_eq_false_iff_not, List.any_eq_false, ItemC.longI, decide_eq_true_eq] at h
  refine ⟨by omega, by omega, by omega, fun i hi => ?_⟩
  have := h.1 i hi
  omega
theorem PutReply_one (hC : Codes E) (hf : Has E f Code.client_PutReply) {c : ReplyC} (hw : Sl s s.next 1 w (l.map ofByte)) (hu : Sl s s.next 4 u (itemsC its)) (hl : c.long l its = false) : Cv E f [.agg ⟨c.cells w u⟩] s fun r s' => Low s.next s s' ∧ ∃ x, r = .tuple ⟨[x, .int .i64 (putRX c l its)]⟩ ∧ Sl s' s'.next 1 x ((putRM c l its).map ofByte) := by
  obtain ⟨h1, h2, h3, h4⟩ := longR_false hl
  refine (PutReply_run hC hf hw hu (by unfold room; omega)).mono ?_
  rintro r s' ⟨g2, ⟨h, x, rfl, g1⟩ | ⟨h, rfl⟩⟩
  · exact ⟨g2, x, by unfold putRX; rw [if_pos h], by unfold putRM; rw [if_pos h]; exact g1.sl⟩
  · exact ⟨g2, _, by unfold putRX; rw [if_neg h], by unfold putRM; rw [if_neg h]; exact .nil⟩
end
end
end Go.Ev
