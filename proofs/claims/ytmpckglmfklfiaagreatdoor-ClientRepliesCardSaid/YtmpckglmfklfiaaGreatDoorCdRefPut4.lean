/-
  The bytes of a reply, the document's side: the whole.
-/
import Derived.Test.YtmpckglmfklfiaaGreatDoorCdRefPut3
set_option linter.unusedVariables false
set_option linter.unusedSimpArgs false
namespace Go.Ev
noncomputable section
section
variable {E : Env} {f : FuncId} {s t : St} {b : List UInt8} {q : Bool} {v w u : Value} {l : List UInt8} {its : List ItemC}
def ReplyC.raw (c : ReplyC) (m l : List UInt8) (its : List ItemC) : List UInt8 :=
  [] ++ m ++ beB 4 (clampN c.n) ++ beB 2 c.text.length ++ c.text ++ beB 2 l.length ++ l ++ [UInt8.ofNat its.length]
def ReplyC.sick (c : ReplyC) (l : List UInt8) : Bool :=
  (((false || (decide (c.err < 0) || decide (((65535 : Nat) : Int) < c.err))) || !numberOk c.n) || decide (65535 < c.text.length)) || decide (300 < l.length)
theorem reply_bad (c : ReplyC) (l : List UInt8) (its : List ItemC) : (c.sick l || decide ((20 : Int) < (its.length : Nat))) = c.bad l its := by
  have e1 : decide ((65535 : Int) < (c.text.length : Nat)) = decide (65535 < c.text.length) := decide_eq_decide.2 (by omega)
  have e2 : decide ((300 : Int) < (l.length : Nat)) = decide (300 < l.length) := decide_eq_decide.2 (by omega)
  have e3 : decide (((65535 : Nat) : Int) < c.err) = decide (65535 < c.err) := decide_eq_decide.2 (by omega)
  unfold ReplyC.sick ReplyC.bad
  rw [e1, e2, e3, Bool.false_or]
  ac_rfl
set_option maxHeartbeats 4000000 in
theorem refPutReply_run (hC : Codes E) (hf : Has E f Code.tithingref26_PutReply) {c : ReplyC} (hw : Sl s s.next 1 w (l.map ofByte)) (hu : Sl s s.next 4 u (itemsC its)) (h1 : c.text.length ≤ 2000) (h2 : l.length ≤ 2000) (h3 : its.length ≤ 60) (h4 : ∀ i ∈ its, i.name.length ≤ 60) :
    Cv E f [.agg ⟨c.cells w u⟩] s fun r s' => Low s.next s s' ∧ ((c.ok l its ∧ ∃ x, r = .tuple ⟨[x, .int .i64 0]⟩ ∧ Gr s' s.next 1 x ((c.bytes l its).map ofByte)) ∨ (¬ c.ok l its ∧ r = .tuple ⟨[.slice none 0 0, .int .i64 2]⟩)) := by
  have hu0 := hu
  obtain ⟨p, n, k, rfl, hn⟩ := hw.parts
  have hnl : n = l.length := by rw [List.length_map] at hn; omega
  subst hnl
  obtain ⟨pu, nu, ku, rfl, hnu⟩ := hu.parts
  have hnl : nu = its.length := by rw [itemsC_length] at hnu; omega
  subst hnl
  refine Cv_of hf.code ?_
  have h0 : (Tr.ofList (.e : Fr) 0 [.agg ⟨c.cells (.slice p l.length k) (.slice pu its.length ku)⟩]).get 0 = some (.agg ⟨c.cells (.slice p l.length k) (.slice pu its.length ku)⟩) := rfl
  generalize (Tr.ofList (.e : Fr) 0 [.agg ⟨c.cells (.slice p l.length k) (.slice pu its.length ku)⟩]) = fr0 at h0
  unfold Code.tithingref26_PutReply
  refine W_seq (W_ops (Wo_box (lo := s.next) (s0 := s) (z := c.cells (.slice p l.length k) (.slice pu its.length ku)) (by simp only [sims, Int.reduceEq, Nat.reduceEqDiff, h0]; rfl) rfl rfl ((Low.self s).skip 3) (Nat.le_add_right _ _) (by rw [next_skip]; omega) fun s1 B1 n1 _ => Wo_all (by simp only [sims, Int.reduceEq, Nat.reduceEqDiff]; rfl) ?_))
  rw [Nat.add_zero] at B1
  rw [next_skip] at n1
  refine W_seq (W_ops (Wo_build (l := [.slice none 0 0, .bool false]) rfl (Wo_box (lo := s.next) (s0 := s) (z := [.slice none 0 0, .bool false]) (by simp only [sims, Int.reduceEq, Nat.reduceEqDiff]; rfl) rfl rfl (B1.low.skip 3) (Nat.le_trans B1.low.le (Nat.le_add_right _ _)) (by rw [next_skip]; omega) fun s2 B2 n2 f2 => Wo_all (by simp only [sims, Int.reduceEq, Nat.reduceEqDiff]; rfl) ?_)))
  rw [next_skip] at n2
  have A2 : Row s2 s.next (c.cells (.slice p l.length k) (.slice pu its.length ku)) := by
    obtain ⟨es, e⟩ := B1.at_
    exact ⟨es, by rw [f2 _ (by omega), get_skip]; exact e⟩
  have W2 : Wt s2 s2.next (s1.next + 1) [] false (.slice none 0 0) := ⟨B2.at_, .nil, by omega, Nat.le_refl _⟩
  refine W_gen (T := [(1, ptr s.next 0), (4, ptr (s1.next + 1) 0)]) (all_cons (by simp only [sims, Int.reduceEq, Nat.reduceEqDiff]) (all_cons (by simp only [sims, Int.reduceEq, Nat.reduceEqDiff]) all_nil)) fun fr2 g2 => ?_
  have k1 := g2 _ (.head _)
  have k4 := g2 _ (.tail _ (.head _))
  simp only at k1 k4
  clear g2
  generalize hL : s2.next = L at W2
  have hLs : s.next + 6 ≤ L := by omega
  generalize ha : s1.next + 1 = a at W2 k4
  have hsa : s.next < a := by omega
  have haL : a < L := by omega
  have A := A2
  have d0 : s2.cell ⟨s.next, 0, none⟩ = some (.int .i64 c.err) := A.cell 0
  first | refine W_seq (W_opsM (Wo_run (by simp only [sims, Int.reduceEq, Nat.reduceEqDiff, k1, k4, d0]; rfl) (Wo_call hC._tithing_tithingref26_writer_two.prim (by simp only [sims, Int.reduceEq, Nat.reduceEqDiff, k1, k4, d0]; try rfl) ((writer_twoI_run hC._tithing_tithingref26_writer_two W2 c.err 65535 (by simp)).mono ?_)))) | refine W_seq (W_ops (Wo_run (by simp only [sims, Int.reduceEq, Nat.reduceEqDiff, k1, k4, d0]; rfl) (Wo_call hC._tithing_tithingref26_writer_two.prim (by simp only [sims, Int.reduceEq, Nat.reduceEqDiff, k1, k4, d0]; try rfl) ((writer_twoI_run hC._tithing_tithingref26_writer_two W2 c.err 65535 (by simp)).mono ?_))))
  rintro _ s3 ⟨C3, v3, m3, hm3, ho3, W3⟩
  refine Wo_nil ?_
  show W E _ _ s3 _
  have A := A2.bl C3 (by omega) (by omega)
  have d0 : s3.cell ⟨s.next, 1, none⟩ = some (.int .i64 c.n) := A.cell 1
  first | refine W_seq (W_opsM (Wo_run (by simp only [sims, Int.reduceEq, Nat.reduceEqDiff, k1, k4, d0]; rfl) (Wo_call hC._tithing_tithingref26_writer_four.prim (by simp only [sims, Int.reduceEq, Nat.reduceEqDiff, k1, k4, d0]; try rfl) ((writer_four_run hC._tithing_tithingref26_writer_four W3 c.n (by simp; omega)).mono ?_)))) | refine W_seq (W_ops (Wo_run (by simp only [sims, Int.reduceEq, Nat.reduceEqDiff, k1, k4, d0]; rfl) (Wo_call hC._tithing_tithingref26_writer_four.prim (by simp only [sims, Int.reduceEq, Nat.reduceEqDiff, k1, k4, d0]; try rfl) ((writer_four_run hC._tithing_tithingref26_writer_four W3 c.n (by simp; omega)).mono ?_))))
  rintro _ s4 ⟨C4, v4, W4⟩
  refine Wo_nil ?_
  show W E _ _ s4 _
  have C4 := C3.trans C4
  have A := A2.bl C4 (by omega) (by omega)
  have d0 : s4.cell ⟨s.next, 2, none⟩ = some (strOf c.text) := A.cell 2
  first | refine W_seq (W_opsM (Wo_run (by simp only [sims, Int.reduceEq, Nat.reduceEqDiff, k1, k4, d0, lenL_eq, Int.ofNat_eq_natCast]; rfl) (Wo_call hC._tithing_tithingref26_writer_two.prim (by simp only [sims, Int.reduceEq, Nat.reduceEqDiff, k1, k4, d0, lenL_eq, Int.ofNat_eq_natCast]; try rfl) ((writer_two_run hC._tithing_tithingref26_writer_two W4 c.text.length 65535 (by omega) (by simp [beB_length]; omega)).mono ?_)))) | refine W_seq (W_ops (Wo_run (by simp only [sims, Int.reduceEq, Nat.reduceEqDiff, k1, k4, d0, lenL_eq, Int.ofNat_eq_natCast]; rfl) (Wo_call hC._tithing_tithingref26_writer_two.prim (by simp only [sims, Int.reduceEq, Nat.reduceEqDiff, k1, k4, d0, lenL_eq, Int.ofNat_eq_natCast]; try rfl) ((writer_two_run hC._tithing_tithingref26_writer_two W4 c.text.length 65535 (by omega) (by simp [beB_length]; omega)).mono ?_))))
  rintro _ s5 ⟨C5, v5, W5⟩
  refine Wo_nil ?_
  show W E _ _ s5 _
  have C5 := C4.trans C5
  have A := A2.bl C5 (by omega) (by omega)
  have d0 : s5.cell ⟨s.next, 2, none⟩ = some (strOf c.text) := A.cell 2
  have d1 : s5.cell ⟨a, 0, none⟩ = some v5 := W5.row.cell 0
  obtain ⟨v6, s6, s7, e6, p6, W7, B7, x7, y7⟩ := W5.app (Feed.str s5 c.text) (by simp [beB_length]; omega) 5
  refine W_seq (W_region (by simp only [sims, Int.reduceEq, Nat.reduceEqDiff, k1, k4, d0, d1, nilOk_ptr, e6, p6, x7.1, x7.2, y7]; rfl) ?_)
  have C7 := C5.trans B7
  have A := A2.bl C7 (by omega) (by omega)
  have d0 : s7.cell ⟨s.next, 3, none⟩ = some (.slice p l.length k) := A.cell 3
  first | refine W_seq (W_opsM (Wo_run (by simp only [sims, Int.reduceEq, Nat.reduceEqDiff, k1, k4, d0, Int.ofNat_eq_natCast]; rfl) (Wo_call hC._tithing_tithingref26_writer_two.prim (by simp only [sims, Int.reduceEq, Nat.reduceEqDiff, k1, k4, d0, Int.ofNat_eq_natCast]; try rfl) ((writer_two_run hC._tithing_tithingref26_writer_two W7 l.length 300 (by omega) (by simp [beB_length]; omega)).mono ?_)))) | refine W_seq (W_ops (Wo_run (by simp only [sims, Int.reduceEq, Nat.reduceEqDiff, k1, k4, d0, Int.ofNat_eq_natCast]; rfl) (Wo_call hC._tithing_tithingref26_writer_two.prim (by simp only [sims, Int.reduceEq, Nat.reduceEqDiff, k1, k4, d0, Int.ofNat_eq_natCast]; try rfl) ((writer_two_run hC._tithing_tithingref26_writer_two W7 l.length 300 (by omega) (by simp [beB_length]; omega)).mono ?_))))
  rintro _ s8 ⟨C8, v8, W8⟩
  refine Wo_nil ?_
  show W E _ _ s8 _
  have C8 := C7.trans C8
  have A := A2.bl C8 (by omega) (by omega)
  have d0 : s8.cell ⟨s.next, 3, none⟩ = some (.slice p l.length k) := A.cell 3
  have d1 : s8.cell ⟨a, 0, none⟩ = some v8 := W8.row.cell 0
  have hw8 := (hw.low B2.low (Nat.le_refl _)).bl C8 (by omega) (by omega)
  obtain ⟨v9, s9, s10, e9, p9, W10, B10, x10, y10⟩ := W8.app hw8.feed (by simp [beB_length]; omega) 5
  refine W_seq (W_region (by simp only [sims, Int.reduceEq, Nat.reduceEqDiff, k1, k4, d0, d1, nilOk_ptr, e9, p9, x10.1, x10.2, y10]; rfl) ?_)
  have C10 := C8.trans B10
  have A := A2.bl C10 (by omega) (by omega)
  have W10 : Wt s10 L a _ (c.sick l) v9 := W10
  generalize hq : c.sick l = q at W10
  have c1 : s10.cell ⟨a, 1, none⟩ = some (.bool q) := W10.row.cell 1
  have d0 : s10.cell ⟨s.next, 4, none⟩ = some (.slice pu its.length ku) := A.cell 4
  obtain ⟨s11, p11, W11, B11⟩ := W10.note (q || decide ((20 : Int) < (its.length : Nat)))
  refine W_seq (W.mono (Q := fun e fr s' => e = .normal ∧ s' = s11 ∧ fr.get 1 = some (ptr s.next 0) ∧ fr.get 4 = some (ptr a 0)) ?_ ?_)
  · cases q with
    | true =>
      rw [Bool.true_or] at p11
      exact W_region (by simp only [sims, Int.reduceEq, Nat.reduceEqDiff, k1, k4, c1, nilOk_ptr, p11]; rfl) ⟨rfl, rfl, by simp only [sims, Int.reduceEq, Nat.reduceEqDiff, k1], by simp only [sims, Int.reduceEq, Nat.reduceEqDiff, k4]⟩
    | false =>
      rw [Bool.false_or] at p11
      exact W_region (by simp only [sims, Int.reduceEq, Nat.reduceEqDiff, k1, k4, c1, d0, nilOk_ptr, Int.ofNat_eq_natCast, p11]; rfl) ⟨rfl, rfl, by simp only [sims, Int.reduceEq, Nat.reduceEqDiff, k1], by simp only [sims, Int.reduceEq, Nat.reduceEqDiff, k4]⟩
  clear k1 k4
  rintro _ fr3 s11' ⟨rfl, hs11, k1, k4⟩
  rw [hs11]; clear hs11 s11'
  show W E _ fr3 _ _
  have C11 := C10.trans B11
  have A := A2.bl C11 (by omega) (by omega)
  have d0 : s11.cell ⟨s.next, 4, none⟩ = some (.slice pu its.length ku) := A.cell 4
  have d1 : s11.cell ⟨a, 0, none⟩ = some v9 := W11.row.cell 0
  refine W_seq (W_ops (Wo_run (l := [_, _, _, _, _, _, _, _, _]) (by simp only [sims, Int.reduceEq, Nat.reduceEqDiff, k1, k4, d0, d1, nilOk_ptr, Int.ofNat_eq_natCast]; rfl) ?_))
  refine Wo_buildSlice (size := 1) (lo := s11.next) (cs := [UInt8.ofNat its.length].map ofByte) (by simp only [sims, Int.reduceEq, Nat.reduceEqDiff]; rw [u8_byte]; rfl) rfl (Nat.le_add_right _ _) (by rw [next_skip]; omega) (by decide) ?_
  rintro s12 ⟨D12, -⟩ l12 hs12
  have l1112 : Low s11.next s11 s12 := ((Low.self s11).skip 14).trans l12
  have W12 := W11.low l1112
  obtain ⟨v13, s13, s14, e13, p13, W14, B14, x14, y14⟩ := W12.app D12.feed (by simp [beB_length]; omega) 5
  refine Wo_all (by simp only [sims, Int.reduceEq, Nat.reduceEqDiff, k4, nilOk_ptr, e13, p13, x14.1, x14.2, y14]; rfl) ?_
  show W E _ _ _ _
  have C14 : Bl L a s2 s14 := C11.trans (((l1112.weak W11.le).bl).trans B14)
  have A := A2.bl C14 (by omega) (by omega)
  rw [← hq, reply_bad] at W14
  have W14 : Wt s14 L a (c.raw m3 l its) (c.bad l its) v13 := W14
  have hraw : (c.raw m3 l its).length ≤ 5000 := by simp [ReplyC.raw, beB_length]; omega
  refine W_seq (W_seq (W_region (by simp only [sims, Int.reduceEq, Nat.reduceEqDiff]; rfl) (W_block ?_)))
  show W E (.loop Code.tithingref26_PutReply_l0) _ s14 _
  refine refput_loop (L := L) (a := a) (q0 := c.bad l its) hC h3 hraw h4 A (by omega) (by omega) rfl ((hu0.low B2.low (Nat.le_refl _)).bl C14 (by omega) (by omega)) (by omega) ?_ its.length _ s14 ⟨0, rfl, ?_⟩
  case refine_2 => exact { le := Nat.zero_le _, f1 := by simp only [sims, Int.reduceEq, Nat.reduceEqDiff, k1], f4 := by simp only [sims, Int.reduceEq, Nat.reduceEqDiff, k4], f5 := by simp only [sims, Int.reduceEq, Nat.reduceEqDiff]; rfl, bl := Bl.refl _ _ _, w := ⟨v13, [], by simp, by simp, by simpa using W14⟩ }
  intro fr s15 I
  obtain ⟨v15, m, -, hmo, W15⟩ := I.w
  rw [List.take_length] at hmo W15
  have C15 : Bl L a s2 s15 := C14.trans I.bl
  have k4 := I.f4
  have low : Low s.next s s15 := B2.low.trans ⟨by have := B2.low.2.1; omega, C15.1, fun c hc => C15.2 c (by omega) (by omega)⟩
  have hok : (c.bad l its || its.any ItemC.sick) = false ↔ c.ok l its := by
    unfold ReplyC.ok
    rw [Bool.or_eq_false_iff, List.any_eq_false]
    refine and_congr Iff.rfl (forall_congr' fun i => imp_congr Iff.rfl ?_)
    rw [← sick_iff]; simp
  generalize hz : (c.bad l its || its.any ItemC.sick) = z at W15 hok
  have dq : s15.cell ⟨a, 1, none⟩ = some (.bool z) := W15.row.cell 1
  have dv : s15.cell ⟨a, 0, none⟩ = some v15 := W15.row.cell 0
  show W E _ fr s15 _
  cases z with
  | true =>
    have hno : ¬ c.ok l its := fun h => absurd (hok.2 h) Bool.noConfusion
    refine W_seq (W_seq (W_region (by simp only [sims, Int.reduceEq, Nat.reduceEqDiff, k4, dq, nilOk_ptr]; rfl) ?_))
    refine W_then (by simp only [sims, Int.reduceEq, Nat.reduceEqDiff]) (W_seq (W_region (by simp only [sims, Int.reduceEq, Nat.reduceEqDiff]; rfl) (W_ret ⟨rfl, _, res_tmp (res_tmp res_nil), low, .inr ⟨hno, by simp only [sims, Int.reduceEq, Nat.reduceEqDiff, tupled]⟩⟩)))
  | false =>
    have hyes := hok.1 rfl
    refine W_seq (W_seq (W_region (by simp only [sims, Int.reduceEq, Nat.reduceEqDiff, k4, dq, nilOk_ptr]; rfl) ?_))
    refine W_else (by simp only [sims, Int.reduceEq, Nat.reduceEqDiff]) (W_skip ?_)
    refine W_seq (W_region (by simp only [sims, Int.reduceEq, Nat.reduceEqDiff, k4, dv, nilOk_ptr]; rfl) ?_)
    refine W_ret ⟨rfl, _, res_tmp (res_tmp res_nil), low, .inl ⟨hyes, v15, by simp only [sims, Int.reduceEq, Nat.reduceEqDiff, tupled], ?_⟩⟩
    have hb := hyes.1
    unfold ReplyC.bad at hb
    simp only [Bool.or_eq_false_iff, decide_eq_false_iff_not, Bool.not_eq_false'] at hb
    have n1 := clampN_ok hb.2.2.1
    have n2 := ho3 (by omega) (by omega)
    have e : c.raw m3 l its ++ m = c.bytes l its := by
      unfold ReplyC.raw ReplyC.bytes ReplyC.head
      rw [n1, n2, hmo hyes.2]
      simp
    have g := W15.gr
    rw [e] at g
    exact g.weak (by omega)
end
end
end Go.Ev
