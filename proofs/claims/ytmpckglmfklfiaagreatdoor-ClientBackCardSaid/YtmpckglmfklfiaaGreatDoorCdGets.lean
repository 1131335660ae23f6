/-
  Is a call too long; are two calls the same; which call bytes are, on both sides.
-/
import Derived.Test.YtmpckglmfklfiaaGreatDoorCdRef2
set_option linter.unusedVariables false
set_option linter.unusedSimpArgs false
namespace Go.Ev
open Int renaming reduceEq → rI
open Nat renaming reduceEqDiff → rN
noncomputable section
def CallC.long (c : CallC) (l : List UInt8) : Bool := decide ((60 : Int) < (c.do_.length : Nat)) || (decide ((60 : Int) < (c.name.length : Nat)) || (decide ((60 : Int) < (c.to.length : Nat)) || decide ((500 : Int) < (l.length : Nat))))
theorem eqM {b0 b1 b2 b3 : Bool} : placesEq [(0, .bool), (1, .bool), (2, .bool), (3, .bool)] [.bool b0, .bool b1, .bool b2, .bool b3] [.bool b0, .bool b1, .bool b2, .bool b3] = some true := by
  cases b0 <;> cases b1 <;> cases b2 <;> cases b3 <;> rfl
theorem eqR {o g fo fg fa : Int} {b : Bool} : placesEq [(0, .int), (1, .int), (2, .int), (3, .int), (4, .int), (5, .bool)] (rightsC o g fo fg fa b) (rightsC o g fo fg fa b) = some true := by
  have e : ∀ n : Int, iEq n n = true := fun n => by rw [iEq_eq]; simp
  show some (iEq o o && (iEq g g && (iEq fo fo && (iEq fg fg && (iEq fa fa && ((b == b) && true)))))) = some true
  rw [e, e, e, e, e]
  cases b <;> rfl
section
variable {E : Env} {f : FuncId} {s : St} {v w u : Value} {l : List UInt8}
set_option maxHeartbeats 4000000 in
theorem LongCall_run (hf : Has E f Code.tithinglaw26_LongCall) (c : CallC) (hw : Sl s s.next 1 w (l.map ofByte)) : Cv E f [.agg ⟨c.cells w⟩] s fun r s' => r = .bool (c.long l) ∧ Low s.next s s' := by
  obtain ⟨p, n, k, rfl, hn⟩ := hw.parts
  have hnl : n = l.length := by rw [List.length_map] at hn; omega
  subst hnl
  refine Cv_of hf.code ?_
  have h0 : (Tr.ofList (.e : Fr) 0 [.agg ⟨c.cells (.slice p l.length k)⟩]).get 0 = some (.agg ⟨c.cells (.slice p l.length k)⟩) := rfl
  generalize (Tr.ofList (.e : Fr) 0 [.agg ⟨c.cells (.slice p l.length k)⟩]) = fr0 at h0
  unfold Code.tithinglaw26_LongCall
  refine W_seq (W_ops (Wo_box (lo := s.next) (s0 := s) (z := c.cells (.slice p l.length k)) (by simp only [sims, rI, rN, h0]; rfl) rfl rfl ((Low.self s).skip 2) (Nat.le_add_right _ _) (by rw [next_skip]; omega) fun s1 B1 n1 _ => Wo_all (by simp only [sims, rI, rN]; rfl) ?_))
  rw [Nat.add_zero] at B1
  have d0 : s1.cell ⟨s.next, 0, none⟩ = some (strOf c.do_) := B1.cell
  have d3 : s1.cell ⟨s.next, 3, none⟩ = some (strOf c.name) := B1.cell
  have d4 : s1.cell ⟨s.next, 4, none⟩ = some (strOf c.to) := B1.cell
  have d18 : s1.cell ⟨s.next, 18, none⟩ = some (.slice p l.length k) := B1.cell
  unfold CallC.long
  cases q0 : decide ((60 : Int) < (c.do_.length : Nat)) <;> cases q1 : decide ((60 : Int) < (c.name.length : Nat)) <;> cases q2 : decide ((60 : Int) < (c.to.length : Nat)) <;> cases q3 : decide ((500 : Int) < (l.length : Nat)) <;>
    exact W_seq (W_region (by simp only [sims, rI, rN, d0, d3, d4, d18, lenL_eq, Int.ofNat_eq_natCast, q0, q1, q2, q3]; rfl) (W_ret ⟨rfl, _, res_tmp res_nil, by simp only [sims, rI, rN, tupled]; try rfl, B1.low⟩))
set_option maxHeartbeats 4000000 in
theorem SameCalls_run (hf : Has E f Code.tithingref26_SameCalls) (c : CallC) (hw : Sl s s.next 1 w (l.map ofByte)) (hu : Sl s s.next 1 u (l.map ofByte)) : Cv E f [.agg ⟨c.cells w⟩, .agg ⟨c.cells u⟩] s fun r s' => r = .bool true ∧ Low s.next s s' := by
  obtain ⟨p, n, k, rfl, hn⟩ := hw.parts
  obtain ⟨q, m, j, rfl, hm⟩ := hu.parts
  have hnl : n = l.length := by rw [List.length_map] at hn; omega
  have hml : m = l.length := by rw [List.length_map] at hm; omega
  subst hnl hml
  refine Cv_of hf.code ?_
  have h0 : (Tr.ofList (.e : Fr) 0 [.agg ⟨c.cells (.slice p l.length k)⟩, .agg ⟨c.cells (.slice q l.length j)⟩]).get 0 = some (.agg ⟨c.cells (.slice p l.length k)⟩) := rfl
  have h1 : (Tr.ofList (.e : Fr) 0 [.agg ⟨c.cells (.slice p l.length k)⟩, .agg ⟨c.cells (.slice q l.length j)⟩]).get 1 = some (.agg ⟨c.cells (.slice q l.length j)⟩) := rfl
  generalize (Tr.ofList (.e : Fr) 0 [.agg ⟨c.cells (.slice p l.length k)⟩, .agg ⟨c.cells (.slice q l.length j)⟩]) = fr0 at h0 h1
  unfold Code.tithingref26_SameCalls
  refine W_seq (W_ops (Wo_box (lo := s.next) (s0 := s) (z := c.cells (.slice p l.length k)) (by simp only [sims, rI, rN, h0]; rfl) rfl rfl ((Low.self s).skip 3) (Nat.le_add_right _ _) (by rw [next_skip]; omega) fun s1 B1 n1 _ => ?_))
  rw [Nat.add_zero] at B1
  rw [next_skip] at n1
  refine Wo_box (lo := s.next) (s0 := s) (z := c.cells (.slice q l.length j)) (by simp only [sims, rI, rN, h1]; rfl) rfl rfl B1.low (by omega) (by omega) fun s2 B2 n2 f2 => Wo_all (by simp only [sims, rI, rN]; rfl) ?_
  have A2 : Row s2 s.next (c.cells (.slice p l.length k)) := by
    obtain ⟨es, e⟩ := B1.at_
    exact ⟨es, by rw [f2 _ (by omega)]; exact e⟩
  have C2 : Row s2 (s.next + 1) (c.cells (.slice q l.length j)) := B2.at_
  have a0 : s2.cell ⟨s.next, 0, none⟩ = some (strOf c.do_) := A2.cell 0
  have a1 : s2.cell ⟨s.next, 1, none⟩ = some (.int .i64 c.dir) := A2.cell 1
  have a2 : s2.cell ⟨s.next, 2, none⟩ = some (.int .i64 c.file) := A2.cell 2
  have a3 : s2.cell ⟨s.next, 3, none⟩ = some (strOf c.name) := A2.cell 3
  have a4 : s2.cell ⟨s.next, 4, none⟩ = some (strOf c.to) := A2.cell 4
  have a5 : s2.cell ⟨s.next, 5, none⟩ = some (.int .i64 c.ref) := A2.cell 5
  have a6 : s2.cell ⟨s.next, 6, none⟩ = some (.int .i64 c.from_) := A2.cell 6
  have a7 : s2.cell ⟨s.next, 7, none⟩ = some (.int .i64 c.many) := A2.cell 7
  have a8 : s2.row ⟨s.next, 8, none⟩ 4 = some [.bool c.b0, .bool c.b1, .bool c.b2, .bool c.b3] := A2.part (by show 8 + 4 ≤ 19; decide)
  have a12 : s2.row ⟨s.next, 12, none⟩ 6 = some (rightsC c.o c.g c.fo c.fg c.fa c.bl) := A2.part (by show 12 + 6 ≤ 19; decide)
  have a18 : s2.cell ⟨s.next, 18, none⟩ = some (.slice p l.length k) := A2.cell 18
  have b0 : s2.cell ⟨s.next + 1, 0, none⟩ = some (strOf c.do_) := C2.cell 0
  have b1 : s2.cell ⟨s.next + 1, 1, none⟩ = some (.int .i64 c.dir) := C2.cell 1
  have b2 : s2.cell ⟨s.next + 1, 2, none⟩ = some (.int .i64 c.file) := C2.cell 2
  have b3 : s2.cell ⟨s.next + 1, 3, none⟩ = some (strOf c.name) := C2.cell 3
  have b4 : s2.cell ⟨s.next + 1, 4, none⟩ = some (strOf c.to) := C2.cell 4
  have b5 : s2.cell ⟨s.next + 1, 5, none⟩ = some (.int .i64 c.ref) := C2.cell 5
  have b6 : s2.cell ⟨s.next + 1, 6, none⟩ = some (.int .i64 c.from_) := C2.cell 6
  have b7 : s2.cell ⟨s.next + 1, 7, none⟩ = some (.int .i64 c.many) := C2.cell 7
  have b8 : s2.row ⟨s.next + 1, 8, none⟩ 4 = some [.bool c.b0, .bool c.b1, .bool c.b2, .bool c.b3] := C2.part (by show 8 + 4 ≤ 19; decide)
  have b12 : s2.row ⟨s.next + 1, 12, none⟩ 6 = some (rightsC c.o c.g c.fo c.fg c.fa c.bl) := C2.part (by show 12 + 6 ≤ 19; decide)
  have b18 : s2.cell ⟨s.next + 1, 18, none⟩ = some (.slice q l.length j) := C2.cell 18
  have x1 := (hw.low B2.low (Nat.le_refl _)).elems
  have x2 := (hu.low B2.low (Nat.le_refl _)).elems
  have l4 : ∀ b0 b1 b2 b3 : Value, Nat.beq (lenL [b0, b1, b2, b3]) 4 = true := fun _ _ _ _ => rfl
  have l6 : Nat.beq (lenL (rightsC c.o c.g c.fo c.fg c.fa c.bl)) 6 = true := rfl
  refine W_seq (W_ops ?_)
  refine Wo_run (l := [_, _, _, _, _, _]) (by simp only [sims, rI, rN, a0, b0]; rfl) ?_
  refine Wo_gen (T := [(2, ptr s.next 0), (3, ptr (s.next + 1) 0), (10, .bool true)]) (all_cons (by simp only [sims, rI, rN]) (all_cons (by simp only [sims, rI, rN]) (all_cons (by simp only [sims, rI, rN]) all_nil))) fun fr0 g0 => ?_
  have g02 := g0 _ (.head _)
  have g03 := g0 _ (.tail _ (.head _))
  have g0F := g0 _ (.tail _ (.tail _ (.head _)))
  simp only at g02 g03 g0F
  refine Wo_run (l := [_, _, _, _, _, _, _]) (by simp only [sims, rI, rN, g02, g03, g0F, a1, b1]; rfl) ?_
  refine Wo_gen (T := [(2, ptr s.next 0), (3, ptr (s.next + 1) 0), (17, .bool true)]) (all_cons (by simp only [sims, rI, rN, g02]) (all_cons (by simp only [sims, rI, rN, g03]) (all_cons (by simp only [sims, rI, rN]) all_nil))) fun fr1 g1 => ?_
  have g12 := g1 _ (.head _)
  have g13 := g1 _ (.tail _ (.head _))
  have g1F := g1 _ (.tail _ (.tail _ (.head _)))
  simp only at g12 g13 g1F
  refine Wo_run (l := [_, _, _, _, _, _, _]) (by simp only [sims, rI, rN, g12, g13, g1F, a2, b2]; rfl) ?_
  refine Wo_gen (T := [(2, ptr s.next 0), (3, ptr (s.next + 1) 0), (24, .bool true)]) (all_cons (by simp only [sims, rI, rN, g12]) (all_cons (by simp only [sims, rI, rN, g13]) (all_cons (by simp only [sims, rI, rN]) all_nil))) fun fr2 g2 => ?_
  have g22 := g2 _ (.head _)
  have g23 := g2 _ (.tail _ (.head _))
  have g2F := g2 _ (.tail _ (.tail _ (.head _)))
  simp only at g22 g23 g2F
  refine Wo_run (l := [_, _, _, _, _, _, _]) (by simp only [sims, rI, rN, g22, g23, g2F, a3, b3]; rfl) ?_
  refine Wo_gen (T := [(2, ptr s.next 0), (3, ptr (s.next + 1) 0), (31, .bool true)]) (all_cons (by simp only [sims, rI, rN, g22]) (all_cons (by simp only [sims, rI, rN, g23]) (all_cons (by simp only [sims, rI, rN]) all_nil))) fun fr3 g3 => ?_
  have g32 := g3 _ (.head _)
  have g33 := g3 _ (.tail _ (.head _))
  have g3F := g3 _ (.tail _ (.tail _ (.head _)))
  simp only at g32 g33 g3F
  refine Wo_run (l := [_, _, _, _, _, _, _]) (by simp only [sims, rI, rN, g32, g33, g3F, a4, b4]; rfl) ?_
  refine Wo_gen (T := [(2, ptr s.next 0), (3, ptr (s.next + 1) 0), (38, .bool true)]) (all_cons (by simp only [sims, rI, rN, g32]) (all_cons (by simp only [sims, rI, rN, g33]) (all_cons (by simp only [sims, rI, rN]) all_nil))) fun fr4 g4 => ?_
  have g42 := g4 _ (.head _)
  have g43 := g4 _ (.tail _ (.head _))
  have g4F := g4 _ (.tail _ (.tail _ (.head _)))
  simp only at g42 g43 g4F
  refine Wo_run (l := [_, _, _, _, _, _, _]) (by simp only [sims, rI, rN, g42, g43, g4F, a5, b5]; rfl) ?_
  refine Wo_gen (T := [(2, ptr s.next 0), (3, ptr (s.next + 1) 0), (45, .bool true)]) (all_cons (by simp only [sims, rI, rN, g42]) (all_cons (by simp only [sims, rI, rN, g43]) (all_cons (by simp only [sims, rI, rN]) all_nil))) fun fr5 g5 => ?_
  have g52 := g5 _ (.head _)
  have g53 := g5 _ (.tail _ (.head _))
  have g5F := g5 _ (.tail _ (.tail _ (.head _)))
  simp only at g52 g53 g5F
  refine Wo_run (l := [_, _, _, _, _, _, _]) (by simp only [sims, rI, rN, g52, g53, g5F, a6, b6]; rfl) ?_
  refine Wo_gen (T := [(2, ptr s.next 0), (3, ptr (s.next + 1) 0), (52, .bool true)]) (all_cons (by simp only [sims, rI, rN, g52]) (all_cons (by simp only [sims, rI, rN, g53]) (all_cons (by simp only [sims, rI, rN]) all_nil))) fun fr6 g6 => ?_
  have g62 := g6 _ (.head _)
  have g63 := g6 _ (.tail _ (.head _))
  have g6F := g6 _ (.tail _ (.tail _ (.head _)))
  simp only at g62 g63 g6F
  refine Wo_run (l := [_, _, _, _, _, _, _]) (by simp only [sims, rI, rN, g62, g63, g6F, a7, b7]; rfl) ?_
  refine Wo_gen (T := [(2, ptr s.next 0), (3, ptr (s.next + 1) 0), (59, .bool true)]) (all_cons (by simp only [sims, rI, rN, g62]) (all_cons (by simp only [sims, rI, rN, g63]) (all_cons (by simp only [sims, rI, rN]) all_nil))) fun fr7 g7 => ?_
  have g72 := g7 _ (.head _)
  have g73 := g7 _ (.tail _ (.head _))
  have g7F := g7 _ (.tail _ (.tail _ (.head _)))
  simp only at g72 g73 g7F
  refine Wo_run (l := [_, _, _, _, _, _, _]) (by simp only [sims, rI, rN, g72, g73, g7F, a8, b8, l4, eqM]; rfl) ?_
  refine Wo_gen (T := [(2, ptr s.next 0), (3, ptr (s.next + 1) 0), (66, .bool true)]) (all_cons (by simp only [sims, rI, rN, g72]) (all_cons (by simp only [sims, rI, rN, g73]) (all_cons (by simp only [sims, rI, rN]) all_nil))) fun fr8 g8 => ?_
  have g82 := g8 _ (.head _)
  have g83 := g8 _ (.tail _ (.head _))
  have g8F := g8 _ (.tail _ (.tail _ (.head _)))
  simp only at g82 g83 g8F
  refine Wo_run (l := [_, _, _, _, _, _, _]) (by simp only [sims, rI, rN, g82, g83, g8F, a12, b12, l6, eqR]; rfl) ?_
  refine Wo_gen (T := [(2, ptr s.next 0), (3, ptr (s.next + 1) 0), (73, .bool true)]) (all_cons (by simp only [sims, rI, rN, g82]) (all_cons (by simp only [sims, rI, rN, g83]) (all_cons (by simp only [sims, rI, rN]) all_nil))) fun fr9 g9 => ?_
  have g92 := g9 _ (.head _)
  have g93 := g9 _ (.tail _ (.head _))
  have g9F := g9 _ (.tail _ (.tail _ (.head _)))
  simp only at g92 g93 g9F
  refine Wo_all (by simp only [sims, rI, rN, g92, g93, g9F, a18, b18, x1, x2, optByte_of]; rfl) (W_ret ⟨rfl, _, res_tmp res_nil, ?_, B2.low⟩)
  simp only [sims, rI, rN, tupled]
def gcC (l : List UInt8) : CallC := if gcE l = 0 then getC l else callZ
def gcD (l : List UInt8) : List UInt8 := if gcE l = 0 then (gc10 l).1 else []
theorem GetCall_one (hC : Codes E) (hf : Has E f Code.client_GetCall) (hs : Sl s s.next 1 v (l.map ofByte)) (hl : l.length ≤ 65536) : Cv E f [v] s fun r s' => Low s.next s s' ∧ ∃ w, r = .tuple ⟨[.agg ⟨(gcC l).cells w⟩, .int .i64 (gcE l)]⟩ ∧ Mid s' s.next s'.next 1 w ((gcD l).map ofByte) := by
  refine (GetCall_run hC hf hs hl).mono ?_
  rintro r s' ⟨h1, ⟨h2, rfl⟩ | ⟨h2, w, rfl, h3⟩⟩
  · exact ⟨h1, _, by unfold gcC; rw [if_neg h2], by unfold gcD; rw [if_neg h2]; exact Mid.nil _ _ _ _⟩
  · exact ⟨h1, w, by unfold gcC; rw [if_pos h2, h2], by unfold gcD; rw [if_pos h2]; exact h3.mid⟩
theorem keep_call {b ix : Nat} {fr : Fr} {Q : Fr → St → Prop} {ops : List COper} {t1 t2 T : Nat} {s0 : St} {c : CallC} {n2 : Nat} {z : List Value} (hz : z.length = 19) (hx : fr.get t2 = some (.agg ⟨c.cells w⟩)) (hw : vcells (.agg ⟨c.cells w⟩) = c.cells w)
    (hlo : Low s0.next s0 s) (hl : s0.next ≤ b + ix) (hb : b + ix < s.next) (hd : t1 ≠ t2)
    (k : ∀ s', Row s' (b + ix) (c.cells w) → Low s0.next s0 s' → s'.next = s.next → (∀ a, a ≠ b + ix → s'.get a = s.get a) → Wo E b ops (fr.set t1 (ptr (b + ix) 0)) s' Q) :
    Wo E b (⟨some t1, .alloc T z, none, ix, []⟩ :: ⟨none, .store 19 (.t t1) (.t t2), none, n2, []⟩ :: ops) fr s Q := by
  refine Wo_alloc (lo := s0.next) (s0 := s0) hlo hl hb fun s1 B1 n1 f1 => ?_
  obtain ⟨s2, p2, B2, n3, f3⟩ := B1.put (o := 0) (vs := c.cells w) (by rw [hz]; exact Nat.le_refl _)
  have e19 : splice z 0 (c.cells w) = c.cells w := by
    rw [splice_eq, List.take_zero, List.nil_append, List.drop_eq_nil_of_le (by rw [hz]; exact Nat.le_refl _), List.append_nil]
  rw [e19] at B2
  have l19 : Nat.beq (lenL (c.cells w)) 19 = true := rfl
  refine Wo_op (v := undef) (s' := s2) ?_ (k s2 B2.at_ B2.low (by rw [n3, n1]) fun a ha => by rw [f3 a ha, f1 a ha])
  rw [putD_some, st_store]
  simp only [sim, if_true, if_neg hd, hx, hw, l19, p2]
end
end
end Go.Ev
