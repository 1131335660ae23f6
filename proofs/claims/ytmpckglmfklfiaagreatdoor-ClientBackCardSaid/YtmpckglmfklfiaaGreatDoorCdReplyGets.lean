/-
  Are two replies the same; which reply bytes are, on both sides.
-/
import Derived.Test.YtmpckglmfklfiaaGreatDoorCdRef3
set_option linter.unusedVariables false
set_option linter.unusedSimpArgs false
namespace Go.Ev
open Int renaming reduceEq → rI
open Nat renaming reduceEqDiff → rN
noncomputable section
theorem eqI (i : ItemC) : placesEq [(0, .int), (1, .int), (2, .str), (3, .bool)] i.cells i.cells = some true := by
  have e : ∀ n : Int, iEq n n = true := fun n => by rw [iEq_eq]; simp
  show some (iEq i.id i.id && (iEq i.parent i.parent && (bytesEq i.name i.name && ((i.dir == i.dir) && true)))) = some true
  rw [e, e, bytesEq_eq]
  cases i.dir <;> simp
section
variable {E : Env} {f : FuncId} {s : St} {v w u w' u' : Value} {l : List UInt8} {its : List ItemC}
theorem SameItems_run (hf : Has E f Code.tithingref18_SameItems) (hn : its.length ≤ 100000) (hu : Sl s s.next 4 u (itemsC its)) (hv : Sl s s.next 4 v (itemsC its)) : Cv E f [u, v] s fun r s' => r = .bool true ∧ s' = s := by
  obtain ⟨p, n, k, rfl, hp⟩ := hu.parts
  obtain ⟨q, m, j, rfl, hq⟩ := hv.parts
  have hnl : n = its.length := by rw [itemsC_length] at hp; omega
  have hml : m = its.length := by rw [itemsC_length] at hq; omega
  subst hnl hml
  refine Cv_of hf.code ?_
  have h0 : (Tr.ofList (.e : Fr) 0 [.slice p its.length k, .slice q its.length j]).get 0 = some (.slice p its.length k) := rfl
  have h1 : (Tr.ofList (.e : Fr) 0 [.slice p its.length k, .slice q its.length j]).get 1 = some (.slice q its.length j) := rfl
  generalize (Tr.ofList (.e : Fr) 0 [.slice p its.length k, .slice q its.length j]) = fr0 at h0 h1
  unfold Code.tithingref18_SameItems
  refine W_seq (W_region (by simp only [sims, rI, rN]; rfl) ?_)
  refine W_seq (W_seq (W_region (by simp only [sims, rI, rN, h0, h1, Int.ofNat_eq_natCast]; rfl) ?_))
  refine W_else (by simp only [sims, rI, rN]) (W_skip ?_)
  refine W_seq (W_seq (W_region (by simp only [sims, rI, rN]; rfl) ?_))
  refine W_block (W_inv (fun mm fr t => t = s ∧ ∃ i, mm = its.length - i ∧ i ≤ its.length ∧ fr.get 0 = some (.slice p its.length k) ∧ fr.get 1 = some (.slice q its.length j) ∧ fr.get 5 = some (.int .i64 (i : Nat))) ?_ (its.length - 0) _ s ⟨rfl, 0, rfl, Nat.zero_le _, by simp only [sims, rI, rN, h0], by simp only [sims, rI, rN, h1], by simp only [sims, rI, rN]; rfl⟩)
  rintro mm fr t ⟨rfl, i, rfl, hi, g0, g1, g5⟩
  unfold Code.tithingref18_SameItems_l0
  by_cases hlt : i < its.length
  · have d : decide (((i : Nat) : Int) < ((its.length : Nat) : Int)) = true := by simp; omega
    refine W_seq (W_seq (W_region (by simp only [sims, rI, rN, g5, g0, d, Int.ofNat_eq_natCast]; rfl) (W_then (by simp only [sims, rI, rN]) (W_skip ?_))))
    obtain ⟨a, rfl, ha⟩ := hu.row (i := i * 4) (k := 4) (by rw [itemsC_length]; omega) (by decide)
    obtain ⟨b, rfl, hb⟩ := hv.row (i := i * 4) (k := 4) (by rw [itemsC_length]; omega) (by decide)
    rw [itemsC_get hlt] at ha hb
    have hbl : Nat.blt i its.length = true := by rw [Nat.blt_eq]; exact hlt
    have l4 : Nat.beq (lenL (its[i]).cells) 4 = true := rfl
    refine W_seq (W_block (W_seq (W_region (by simp only [sims, rI, rN, g0, g1, g5, hbl, ha, hb, l4, eqI]; rfl) (W_else (by simp only [sims, rI, rN]) (W_skip ?_)))))
    show W E _ _ _ _
    have e1 : wr .i64 (((i : Nat) : Int) + 1) = ((i + 1 : Nat) : Int) := by rw [wr_i64 (by omega) (by omega)]; omega
    refine W_region (by simp only [sims, rI, rN, g5, e1]; rfl) ?_
    exact ⟨its.length - (i + 1), by omega, rfl, i + 1, rfl, by omega, by simp only [sims, rI, rN, g0], by simp only [sims, rI, rN, g1], by simp only [sims, rI, rN]⟩
  · have d : decide (((i : Nat) : Int) < ((its.length : Nat) : Int)) = false := by simp; omega
    refine W_seq (W_seq (W_region (by simp only [sims, rI, rN, g5, g0, d, Int.ofNat_eq_natCast]; rfl) (W_else (by simp only [sims, rI, rN]) (W_exit ?_))))
    show W E _ _ _ _
    refine W_seq (W_region (by simp only [sims, rI, rN]; rfl) ?_)
    exact W_ret ⟨rfl, _, res_tmp res_nil, by simp only [sims, rI, rN, tupled], rfl⟩
set_option maxHeartbeats 2000000 in
theorem Same_run (hC : Codes E) (hf : Has E f Code.tithingref25_Same) (y : ReplyC) (hn : its.length ≤ 100000) (hw : Sl s s.next 1 w (l.map ofByte)) (hu : Sl s s.next 4 u (itemsC its)) (hw' : Sl s s.next 1 w' (l.map ofByte)) (hu' : Sl s s.next 4 u' (itemsC its)) :
    Cv E f [.agg ⟨y.cells w u⟩, .agg ⟨y.cells w' u'⟩] s fun r s' => r = .bool true ∧ Low s.next s s' := by
  obtain ⟨p, n, k, rfl, hp⟩ := hw.parts
  obtain ⟨q, m, j, rfl, hq⟩ := hw'.parts
  have hnl : n = l.length := by rw [List.length_map] at hp; omega
  have hml : m = l.length := by rw [List.length_map] at hq; omega
  subst hnl hml
  have hvc : vcells (.agg ⟨y.cells (.slice p l.length k) u⟩) = y.cells (.slice p l.length k) u := rfl
  have hvc' : vcells (.agg ⟨y.cells (.slice q l.length j) u'⟩) = y.cells (.slice q l.length j) u' := rfl
  refine Cv_of hf.code ?_
  have h0 : (Tr.ofList (.e : Fr) 0 [.agg ⟨y.cells (.slice p l.length k) u⟩, .agg ⟨y.cells (.slice q l.length j) u'⟩]).get 0 = some (.agg ⟨y.cells (.slice p l.length k) u⟩) := rfl
  have h1 : (Tr.ofList (.e : Fr) 0 [.agg ⟨y.cells (.slice p l.length k) u⟩, .agg ⟨y.cells (.slice q l.length j) u'⟩]).get 1 = some (.agg ⟨y.cells (.slice q l.length j) u'⟩) := rfl
  generalize (Tr.ofList (.e : Fr) 0 [.agg ⟨y.cells (.slice p l.length k) u⟩, .agg ⟨y.cells (.slice q l.length j) u'⟩]) = fr0 at h0 h1
  unfold Code.tithingref25_Same
  refine W_seq (W_ops (Wo_box (lo := s.next) (s0 := s) (z := y.cells (.slice p l.length k) u) (by simp only [sims, rI, rN, h0]; rfl) rfl rfl ((Low.self s).skip 3) (Nat.le_add_right _ _) (by rw [next_skip]; omega) fun s1 B1 n1 _ => ?_))
  rw [Nat.add_zero] at B1
  rw [next_skip] at n1
  refine Wo_box (lo := s.next) (s0 := s) (z := y.cells (.slice q l.length j) u') (by simp only [sims, rI, rN, h1]; rfl) rfl rfl B1.low (by omega) (by omega) fun s2 B2 n2 f2 => Wo_all (by simp only [sims, rI, rN]; rfl) ?_
  have A2 : Row s2 s.next (y.cells (.slice p l.length k) u) := by
    obtain ⟨es, e⟩ := B1.at_
    exact ⟨es, by rw [f2 _ (by omega)]; exact e⟩
  have C2 : Row s2 (s.next + 1) (y.cells (.slice q l.length j) u') := B2.at_
  have a0 : s2.cell ⟨s.next, 0, none⟩ = some (.int .i64 y.err) := A2.cell 0
  have a1 : s2.cell ⟨s.next, 1, none⟩ = some (.int .i64 y.n) := A2.cell 1
  have a2 : s2.cell ⟨s.next, 2, none⟩ = some (strOf y.text) := A2.cell 2
  have a3 : s2.cell ⟨s.next, 3, none⟩ = some (.slice p l.length k) := A2.cell 3
  have a4 : s2.cell ⟨s.next, 4, none⟩ = some u := A2.cell 4
  have b0 : s2.cell ⟨s.next + 1, 0, none⟩ = some (.int .i64 y.err) := C2.cell 0
  have b1 : s2.cell ⟨s.next + 1, 1, none⟩ = some (.int .i64 y.n) := C2.cell 1
  have b2 : s2.cell ⟨s.next + 1, 2, none⟩ = some (strOf y.text) := C2.cell 2
  have b3 : s2.cell ⟨s.next + 1, 3, none⟩ = some (.slice q l.length j) := C2.cell 3
  have b4 : s2.cell ⟨s.next + 1, 4, none⟩ = some u' := C2.cell 4
  have x1 := (hw.low B2.low (Nat.le_refl _)).elems
  have x2 := (hw'.low B2.low (Nat.le_refl _)).elems
  refine W_seq (W_opsM (Wo_run (by simp only [sims, rI, rN, a0, a1, a2, a3, a4, b0, b1, b2, b3, b4, x1, x2, optByte_of]; rfl) (Wo_gt (by simp only [sims, rI, rN]) (Wo_call hC.tithingref18_SameItems.prim (args := [u, u']) (by simp only [sims, rI, rN]) ((SameItems_run hC.tithingref18_SameItems hn ((hu.low B2.low (Nat.le_refl _)).wide B2.low.2.1) ((hu'.low B2.low (Nat.le_refl _)).wide B2.low.2.1)).mono ?_)))))
  rintro _ _ ⟨rfl, hs⟩
  rw [hs]; clear hs
  refine Wo_all (by simp only [sims, rI, rN]; rfl) (W_ret ⟨rfl, _, res_tmp res_nil, by simp only [sims, rI, rN, tupled], B2.low⟩)
def grY (l : List UInt8) : ReplyC := if grE l = 0 then getY l else replyZ
def grD (l : List UInt8) : List UInt8 := if grE l = 0 then (gr4 l).1 else []
def grI (l : List UInt8) : List ItemC := if grE l = 0 then (gr6 l).1 else []
theorem GetReply_one (hC : Codes E) (hf : Has E f Code.client_GetReply) (hs : Sl s s.next 1 v (l.map ofByte)) (hl : l.length ≤ 65536) : Cv E f [v] s fun r s' => Low s.next s s' ∧ ∃ w u, r = .tuple ⟨[.agg ⟨(grY l).cells w u⟩, .int .i64 (grE l)]⟩ ∧ Mid s' s.next s'.next 1 w ((grD l).map ofByte) ∧ Mid s' s.next s'.next 4 u (itemsC (grI l)) := by
  refine (GetReply_run hC hf hs hl).mono ?_
  rintro r s' ⟨h1, ⟨h2, rfl⟩ | ⟨h2, w, u, rfl, h3, h4⟩⟩
  · exact ⟨h1, _, _, by unfold grY; rw [if_neg h2], by unfold grD; rw [if_neg h2]; exact Mid.nil _ _ _ _, by unfold grI; rw [if_neg h2]; exact Mid.nil _ _ _ _⟩
  · exact ⟨h1, w, u, by unfold grY; rw [if_pos h2, h2], by unfold grD; rw [if_pos h2]; exact h3, by unfold grI; rw [if_pos h2]; exact h4⟩
theorem keep_agg {b ix : Nat} {fr : Fr} {Q : Fr → St → Prop} {ops : List COper} {t1 t2 T : Nat} {s0 : St} {cs : List Value} {n n2 : Nat} {z : List Value} (hz : z.length = n) (hn : cs.length = n) (hx : fr.get t2 = some (.agg ⟨cs⟩))
    (hlo : Low s0.next s0 s) (hl : s0.next ≤ b + ix) (hb : b + ix < s.next) (hd : t1 ≠ t2)
    (k : ∀ s', Row s' (b + ix) cs → Low s0.next s0 s' → s'.next = s.next → (∀ a, a ≠ b + ix → s'.get a = s.get a) → Wo E b ops (fr.set t1 (ptr (b + ix) 0)) s' Q) :
    Wo E b (⟨some t1, .alloc T z, none, ix, []⟩ :: ⟨none, .store n (.t t1) (.t t2), none, n2, []⟩ :: ops) fr s Q := by
  refine Wo_alloc (lo := s0.next) (s0 := s0) hlo hl hb fun s1 B1 n1 f1 => ?_
  obtain ⟨s2, p2, B2, n3, f3⟩ := B1.put (o := 0) (vs := cs) (by omega)
  have e19 : splice z 0 cs = cs := by
    rw [splice_eq, List.take_zero, List.nil_append, List.drop_eq_nil_of_le (by omega), List.append_nil]
  rw [e19] at B2
  have l19 : Nat.beq (lenL cs) n = true := by rw [lenL_eq, hn]; exact Nat.beq_refl n
  refine Wo_op (v := undef) (s' := s2) ?_ (k s2 B2.at_ B2.low (by rw [n3, n1]) fun a ha => by rw [f3 a ha, f1 a ha])
  rw [putD_some, st_store]
  simp only [sim, if_true, if_neg hd, hx, l19, p2]
end
end
end Go.Ev
