/-
  A reply out of its bytes, the document's side; are two replies the same.
-/
import Derived.Test.YtmpckglmfklfiaaGreatDoorCdGets
set_option linter.unusedVariables false
set_option linter.unusedSimpArgs false
namespace Go.Ev
noncomputable section
section
variable {E : Env} {f : FuncId} {s t : St} {hi a c d : Nat} {v w u : Value} {l : List UInt8} {x : Nat × Int}
theorem refitems_loop (hC : Codes E) {s0 : St} {L L0 n : Nat} {dt : List UInt8} {y : ReplyC} {x0 : Nat × Int} {zs : List Value} (hn : n ≤ 255) {Q : Ex → Fr → St → Prop}
    (hq : ∀ fr t x acc u, (acc, x) = itsP l n x0 → Gt s0 4 5 2 hi a c d v l zs fr t x (y.cells w u) → Gr t L 4 u (itemsC acc) → Mid t L0 L 1 w (dt.map ofByte) → L ≤ t.next → Q (.exit 0) fr t) :
    ∀ (m : Nat) (fr : Fr) (t : St), (∃ i x acc u, m = n - i ∧ ItL s0 hi a c d L L0 n v w l dt y x0 zs i x acc u fr t) → W E (.loop Code.tithingref26_GetReply_l0) fr t Q := by
  refine W_inv _ ?_
  rintro m fr t ⟨i, x, acc, u, rfl, I⟩
  have g4 := I.g.r
  have g5 := I.g.b
  have g2 := I.g.o
  have g7 := I.f7
  have g6 := I.f6
  have le := I.le
  have c2 : t.cell ⟨a, 2, none⟩ = some (.int .i64 x.2) := I.g.rd.row.cell 2
  unfold Code.tithingref26_GetReply_l0
  by_cases hin : i < n
  case neg =>
    have e0 : n - i = 0 := by omega
    have d1 : decide (((i : Nat) : Int) < ((n : Nat) : Int)) = false := by simp; omega
    refine W_seq (W_seq (W_region (by simp only [sims, Int.reduceEq, Nat.reduceEqDiff, g7, g6, d1]; rfl) (W_else (by simp only [sims, Int.reduceEq, Nat.reduceEqDiff]) (W_exit ?_))))
    have so := I.so
    rw [e0] at so
    refine hq _ t x acc u (by rw [so]; simp [itsP]) (I.g.frm ?_) I.u4 I.w1 I.hL
    exact ⟨by simp only [sims, Int.reduceEq, Nat.reduceEqDiff], by simp only [sims, Int.reduceEq, Nat.reduceEqDiff], by simp only [sims, Int.reduceEq, Nat.reduceEqDiff]⟩
  have d1 : decide (((i : Nat) : Int) < ((n : Nat) : Int)) = true := by simp; omega
  by_cases he : x.2 = 0
  case neg =>
    have d2 : decide (x.2 = 0) = false := decide_eq_false he
    refine W_seq (W_seq (W_region (by simp only [sims, Int.reduceEq, Nat.reduceEqDiff, g7, g6, g4, d1, d2, c2, nilOk_ptr]; rfl) (W_else (by simp only [sims, Int.reduceEq, Nat.reduceEqDiff]) (W_exit ?_))))
    have so := I.so
    have e1 : itsP l (n - i) x = ([], x) := by
      obtain ⟨k, hk⟩ : ∃ k, n - i = k + 1 := ⟨n - i - 1, by omega⟩
      rw [hk]
      show (if x.2 = 0 then _ else _) = _
      rw [if_neg he]
    rw [e1] at so
    refine hq _ t x acc u (by rw [so]; simp) (I.g.frm ?_) I.u4 I.w1 I.hL
    exact ⟨by simp only [sims, Int.reduceEq, Nat.reduceEqDiff], by simp only [sims, Int.reduceEq, Nat.reduceEqDiff], by simp only [sims, Int.reduceEq, Nat.reduceEqDiff]⟩
  have d2 : decide (x.2 = 0) = true := decide_eq_true he
  refine W_seq (W_seq (W_region (by simp only [sims, Int.reduceEq, Nat.reduceEqDiff, g7, g6, g4, d1, d2, c2, nilOk_ptr]; rfl) (W_then (by simp only [sims, Int.reduceEq, Nat.reduceEqDiff]) (W_skip ?_))))
  have rd := I.g.rd
  have hLt := I.hL
  have aL := I.aL
  have cL := I.cL
  have dL := I.dL
  have L0L := I.L0L
  have hm := I.g.mh
  refine W_seq (W_block (W_seq (W_ops (Wo_alloc (lo := L) (s0 := t) ((Low.refl hLt).skip 1) (by omega) (by rw [next_skip]; omega) fun t3 B3 n3 f3 => Wo_nil ?_))))
  rw [next_skip] at n3
  rw [Nat.add_zero] at B3 f3
  have K3 : But t.next t t3 := ⟨by omega, fun b hb hne => by rw [f3 b hne, get_skip]⟩
  show W E _ _ t3 _
  refine W_gen (T := [(4, ptr a 0), (8, ptr t.next 0), (5, ptr c 0), (2, ptr d 0), (7, .int .i64 (i : Nat)), (6, .int .i64 (n : Nat))]) (all_cons (by simp only [sims, Int.reduceEq, Nat.reduceEqDiff, g4]) (all_cons (by simp only [sims, Int.reduceEq, Nat.reduceEqDiff]) (all_cons (by simp only [sims, Int.reduceEq, Nat.reduceEqDiff, g5]) (all_cons (by simp only [sims, Int.reduceEq, Nat.reduceEqDiff, g2]) (all_cons (by simp only [sims, Int.reduceEq, Nat.reduceEqDiff, g7]) (all_cons (by simp only [sims, Int.reduceEq, Nat.reduceEqDiff, g6]) all_nil)))))) fun fr3 h3 => ?_
  have rdlt := rd.lt
  have rdge := rd.ge
  have cda : a ≠ c := I.g.ac
  have dda : a ≠ d := I.g.ad
  have hcn := I.g.hc
  have G3 : Gt t 4 8 5 hi a t.next c v l (y.cells w u) fr3 t3 x (ItemC.cells ⟨0, 0, [], false⟩) :=
    { r := h3 _ (.head _), b := h3 _ (.tail _ (.head _)), o := h3 _ (.tail _ (.tail _ (.head _))), rd := rd.but K3 (by omega) (by omega), box := B3.at_,
      out := I.g.box.but K3 hcn (by omega), ac := by omega, ad := cda, cd := by omega, hc := by omega, hd := by omega, mc := by omega, mh := by omega, keep := (But.refl a t).over K3 (by omega) }
  have j2 := h3 _ (.tail _ (.tail _ (.tail _ (.head _))))
  have j7 := h3 _ (.tail _ (.tail _ (.tail _ (.tail _ (.head _)))))
  have j6 := h3 _ (.tail _ (.tail _ (.tail _ (.tail _ (.tail _ (.head _))))))
  simp only at j2 j7 j6
  clear h3
  refine W_seq (G3.val (ws := [.int .i64 (4 : Nat)]) (y := (it1 l x).2) hC._tithing_tithingref26_reader_number.prim (fun _ => rfl) (refnumber_run hC hC._tithing_tithingref26_reader_number G3.rd (n := 4) (by decide)) rfl rfl (le_by rfl) (by decide) fun fr4 t4 e4 G4 => ?_)
  refine W_seq (G4.val (ws := [.int .i64 (4 : Nat)]) (y := (it2 l x).2) hC._tithing_tithingref26_reader_number.prim (fun _ => rfl) (refnumber_run hC hC._tithing_tithingref26_reader_number G4.rd (n := 4) (by decide)) rfl rfl (le_by rfl) (by decide) fun fr5 t5 e5 G5 => ?_)
  have m2 : fr5.get 2 = some (ptr d 0) := (e5 2 (by decide) (by decide) (by decide)).trans ((e4 2 (by decide) (by decide) (by decide)).trans j2)
  have m7 : fr5.get 7 = some (.int .i64 (i : Nat)) := (e5 7 (by decide) (by decide) (by decide)).trans ((e4 7 (by decide) (by decide) (by decide)).trans j7)
  have m6 : fr5.get 6 = some (.int .i64 (n : Nat)) := (e5 6 (by decide) (by decide) (by decide)).trans ((e4 6 (by decide) (by decide) (by decide)).trans j6)
  clear e4 e5 j2 j7 j6 G3 G4
  have G5 : Gt t 4 8 5 hi a t.next c v l (y.cells w u) fr5 t5 (it2 l x).2 (ItemC.cells ⟨((it1 l x).1 : Nat), ((it2 l x).1 : Nat), [], false⟩) := G5
  have m4 := G5.r
  have m5 := G5.o
  have m8 := G5.b
  first | refine W_seq (W_opsM (Wo_run (by simp only [sims, Int.reduceEq, Nat.reduceEqDiff, m4]; rfl) (Wo_call hC._tithing_tithingref26_reader_number.prim (by simp only [sims, Int.reduceEq, Nat.reduceEqDiff, m4]; try rfl) ((refnumber_run hC hC._tithing_tithingref26_reader_number G5.rd (n := 1) (by decide)).mono ?_)))) | refine W_seq (W_ops (Wo_run (by simp only [sims, Int.reduceEq, Nat.reduceEqDiff, m4]; rfl) (Wo_call hC._tithing_tithingref26_reader_number.prim (by simp only [sims, Int.reduceEq, Nat.reduceEqDiff, m4]; try rfl) ((refnumber_run hC hC._tithing_tithingref26_reader_number G5.rd (n := 1) (by decide)).mono ?_))))
  rintro _ t5' ⟨rfl, R5, B5⟩
  refine Wo_all (by simp only [sims, Int.reduceEq, Nat.reduceEqDiff]; rfl) ?_
  have dm : decide ((((fxP l 1 (it2 l x).2).1 : Nat) : Int) < 2) = decide ((fxP l 1 (it2 l x).2).1 ≤ 1) := decide_eq_decide.2 (by omega)
  first | refine W_seq (W_opsM (Wo_run (by simp only [sims, Int.reduceEq, Nat.reduceEqDiff, m4, dm]; rfl) (Wo_call hC._tithing_tithingref26_reader_check.prim (by simp only [sims, Int.reduceEq, Nat.reduceEqDiff, m4, dm]; try rfl) ((check_run hC._tithing_tithingref26_reader_check R5 (decide ((fxP l 1 (it2 l x).2).1 ≤ 1)) 3).mono ?_)))) | refine W_seq (W_ops (Wo_run (by simp only [sims, Int.reduceEq, Nat.reduceEqDiff, m4, dm]; rfl) (Wo_call hC._tithing_tithingref26_reader_check.prim (by simp only [sims, Int.reduceEq, Nat.reduceEqDiff, m4, dm]; try rfl) ((check_run hC._tithing_tithingref26_reader_check R5 (decide ((fxP l 1 (it2 l x).2).1 ≤ 1)) 3).mono ?_))))
  have hc3 : chkP (decide ((fxP l 1 (it2 l x).2).1 ≤ 1)) 3 (fxP l 1 (it2 l x).2).2 = (it3 l x).2 := by
    show _ = (msP l 1 (it2 l x).2).2
    unfold msP
    by_cases hq : (fxP l 1 (it2 l x).2).1 ≤ 1
    · rw [decide_eq_true hq, chkP_true, if_neg (by omega)]
    · rw [decide_eq_false hq, chkP_false, if_pos (by omega)]
  rw [hc3]
  rintro _ t6 ⟨R6, B6⟩
  refine Wo_nil ?_
  show W E _ _ t6 _
  have G6 := (G5.go R5 B5).go R6 B6
  have e3 : decide ((((fxP l 1 (it2 l x).2).1 : Nat) : Int) = 1) = decide ((it3 l x).1 = 1) := decide_eq_decide.2 (by show ((((it3 l x).1 : Nat) : Int) = 1) ↔ _; omega)
  obtain ⟨t7, p7, G7, -⟩ := G6.put (i := 3) (vs := [.bool (decide ((it3 l x).1 = 1))]) (le_by rfl)
  refine W_seq (W_region (by simp only [sims, Int.reduceEq, Nat.reduceEqDiff, m8, e3, p7]; rfl) ?_)
  refine W_gen (T := [(4, ptr a 0), (8, ptr t.next 0), (5, ptr c 0), (2, ptr d 0), (7, .int .i64 (i : Nat)), (6, .int .i64 (n : Nat))]) (all_cons (by simp only [sims, Int.reduceEq, Nat.reduceEqDiff, m4]) (all_cons (by simp only [sims, Int.reduceEq, Nat.reduceEqDiff, m8]) (all_cons (by simp only [sims, Int.reduceEq, Nat.reduceEqDiff, m5]) (all_cons (by simp only [sims, Int.reduceEq, Nat.reduceEqDiff, m2]) (all_cons (by simp only [sims, Int.reduceEq, Nat.reduceEqDiff, m7]) (all_cons (by simp only [sims, Int.reduceEq, Nat.reduceEqDiff, m6]) all_nil)))))) fun fr7 h7 => ?_
  have G7 : Gt t 4 8 5 hi a t.next c v l (y.cells w u) fr7 t7 (it3 l x).2 (ItemC.cells ⟨((it1 l x).1 : Nat), ((it2 l x).1 : Nat), [], decide ((it3 l x).1 = 1)⟩) :=
    { G7 with r := h7 _ (.head _), b := h7 _ (.tail _ (.head _)), o := h7 _ (.tail _ (.tail _ (.head _))) }
  have j2 := h7 _ (.tail _ (.tail _ (.tail _ (.head _))))
  have j7 := h7 _ (.tail _ (.tail _ (.tail _ (.tail _ (.head _)))))
  have j6 := h7 _ (.tail _ (.tail _ (.tail _ (.tail _ (.tail _ (.head _))))))
  simp only at j2 j7 j6
  clear h7 m2 m7 m6 m4 m5 m8 G6 G5
  refine W_seq (G7.val (ws := []) (y := (it4 l x).2) hC._tithing_tithingref26_reader_text.prim (fun _ => rfl) (reftext_run hC hC._tithing_tithingref26_reader_text G7.rd) rfl rfl (le_by rfl) (by decide) fun fr6 t6 e6 G6 => ?_)
  have G6 : Gt t 4 8 5 hi a t.next c v l (y.cells w u) fr6 t6 (it4 l x).2 (itV l x).cells := G6
  have m2 : fr6.get 2 = some (ptr d 0) := (e6 2 (by decide) (by decide) (by decide)).trans j2
  have m7 : fr6.get 7 = some (.int .i64 (i : Nat)) := (e6 7 (by decide) (by decide) (by decide)).trans j7
  have m6 : fr6.get 6 = some (.int .i64 (n : Nat)) := (e6 6 (by decide) (by decide) (by decide)).trans j6
  clear e6 j2 j7 j6 G7
  have m4 := G6.r
  have m5 := G6.o
  have m8 := G6.b
  have c4 : t6.cell ⟨c, 4, none⟩ = some u := G6.out.cell 4
  have r8 : t6.row ⟨t.next, 0, none⟩ 4 = some (itV l x).cells := G6.box.row rfl
  have K6 := G6.keep
  have hn6 : t.next ≤ t6.next := K6.1
  refine W_ops (Wo_run (l := [_, _, _]) (by simp only [sims, Int.reduceEq, Nat.reduceEqDiff, m5, m8, c4, r8]; rfl) ?_)
  refine Wo_buildSlice (size := 4) (lo := t6.next) (cs := (itV l x).cells) (by simp only [sims, Int.reduceEq, Nat.reduceEqDiff]; rfl) rfl (Nat.le_add_right _ _) (by rw [next_skip]; omega) (by decide) ?_
  rintro t7 ⟨-, g1⟩ l7 hs7
  have l7 : Low t6.next t6 t7 := ((Low.self t6).skip 7).trans l7
  have hu : Gr t7 L 4 u (itemsC acc) := (I.u4.but K6 (by omega)).low l7 (Nat.le_refl _)
  have hacc := I.num
  refine Wo_append (lo := L) (by simp only [sims, Int.reduceEq, Nat.reduceEqDiff]) (by simp only [sims, Int.reduceEq, Nat.reduceEqDiff]) hu (Nat.le_trans (Nat.le_trans hLt hn6) l7.2.1) g1.sl.feed (by decide) (by rw [itemsC_length]; show (acc.length * 4 + 4) * 40 ≤ room * 4; simp only [room]; omega) ?_
  rintro u' t8 g8 l8 -
  have cells : storable u' = true ∧ vcells u' = [u'] := g8.cells
  have hul : Nat.beq (lenL [u']) 1 = true := rfl
  have hdn : d < t6.next := Nat.lt_of_lt_of_le dL (Nat.le_trans L0L (Nat.le_trans hLt hn6))
  have hcn : c < t6.next := Nat.lt_of_lt_of_le cL (Nat.le_trans L0L (Nat.le_trans hLt hn6))
  have G8 : Gt s0 4 5 2 hi a c d v l zs fr6 t8 (it4 l x).2 (y.cells w u) :=
    { r := m4, b := m5, o := m2, rd := (G6.rd.low l7 (by omega)).low l8 (by omega), box := (G6.out.low l7 hcn).low l8 (by omega), out := (((I.g.out.but K6 I.g.hd (Ne.symm dda)).low l7 hdn).low l8 (by omega)),
      ac := cda, ad := dda, cd := I.g.cd, hc := Nat.lt_of_lt_of_le (Nat.lt_of_lt_of_le hcn l7.2.1) l8.2.1, hd := Nat.lt_of_lt_of_le (Nat.lt_of_lt_of_le hdn l7.2.1) l8.2.1, mc := I.g.mc, mh := hm, keep := ((I.g.keep.trans K6).trans (l7.but a)).lows l8 I.sL }
  obtain ⟨t9, p9, G9, B9⟩ := G8.put (i := 4) (vs := [u']) (le_by rfl)
  refine Wo_all (by simp only [sims, Int.reduceEq, Nat.reduceEqDiff, m5, cells.1, cells.2, hul, p9]; rfl) ?_
  show W E _ _ _ _
  have e1 : wr .i64 (((i : Nat) : Int) + 1) = ((i + 1 : Nat) : Int) := by rw [wr_i64 (by omega) (by omega)]; omega
  refine W_region (by simp only [sims, Int.reduceEq, Nat.reduceEqDiff, m7, e1]; rfl) ?_
  refine ⟨n - (i + 1), by omega, i + 1, (it4 l x).2, acc ++ [itV l x], u', rfl, ?_⟩
  obtain ⟨k, hk⟩ : ∃ k, n - i = k + 1 := ⟨n - i - 1, by omega⟩
  have so := I.so
  rw [hk] at so
  have e2 : itsP l (k + 1) x = (itV l x :: (itsP l k (it4 l x).2).1, (itsP l k (it4 l x).2).2) := by
    show (if x.2 = 0 then _ else _) = _
    rw [if_pos he]
  exact { le := by omega, num := by rw [List.length_append, List.length_singleton]; omega, so := by rw [so, e2, show n - (i + 1) = k from by omega]; simp,
          g := G9.frm ⟨by simp only [sims, Int.reduceEq, Nat.reduceEqDiff], by simp only [sims, Int.reduceEq, Nat.reduceEqDiff], by simp only [sims, Int.reduceEq, Nat.reduceEqDiff]⟩, f7 := by simp only [sims, Int.reduceEq, Nat.reduceEqDiff], f6 := by simp only [sims, Int.reduceEq, Nat.reduceEqDiff, m6], u4 := by rw [itemsC_snoc]; exact g8.but B9 (by omega),
          w1 := (((I.w1.but K6 hLt (.inl aL)).low l7 (Nat.le_trans hLt hn6)).low l8 (Nat.le_refl _)).but B9 (Nat.le_trans (Nat.le_trans (Nat.le_trans hLt hn6) l7.2.1) l8.2.1) (.inl cL),
          hL := Nat.le_trans (Nat.le_trans (Nat.le_trans (Nat.le_trans hLt hn6) l7.2.1) l8.2.1) B9.1, aL := aL, cL := cL, dL := dL, L0L := L0L, sL := I.sL }
set_option maxHeartbeats 2000000 in
theorem refGetReply_run (hC : Codes E) (hf : Has E f Code.tithingref26_GetReply) (hs : Sl s s.next 1 v (l.map ofByte)) (hl : l.length ≤ 65536) : Cv E f [v] s fun r s' => Low s.next s s' ∧
    ((grE l ≠ 0 ∧ r = .tuple ⟨[.agg ⟨replyZ.cells (.slice none 0 0) (.slice none 0 0)⟩, .int .i64 (grE l)]⟩) ∨
     (grE l = 0 ∧ ∃ w u, r = .tuple ⟨[.agg ⟨(getY l).cells w u⟩, .int .i64 0]⟩ ∧ Mid s' s.next s'.next 1 w ((gr4 l).1.map ofByte) ∧ Mid s' s.next s'.next 4 u (itemsC (gr6 l).1))) := by
  obtain ⟨p, m, cc, rfl, hm⟩ := hs.parts
  rw [List.length_map, Nat.mul_one] at hm
  subst hm
  refine Cv_of hf.code ?_
  have h0 : (Tr.ofList (.e : Fr) 0 [.slice p l.length cc]).get 0 = some (.slice p l.length cc) := rfl
  generalize (Tr.ofList (.e : Fr) 0 [.slice p l.length cc]) = fr0 at h0
  unfold Code.tithingref26_GetReply
  refine W_seq (W_ops (Wo_alloc (lo := s.next) (s0 := s) ((Low.self s).skip 2) (Nat.le_add_right _ _) (by rw [next_skip]; omega) fun s1 B1 n1 _ => Wo_all (by simp only [sims, Int.reduceEq, Nat.reduceEqDiff]; rfl) ?_))
  rw [Nat.add_zero] at B1
  rw [next_skip] at n1
  refine W_seq (W_ops (Wo_run (l := [_, _]) (by simp only [sims, Int.reduceEq, Nat.reduceEqDiff, h0]; rfl) (Wo_box (lo := s.next) (s0 := s) (z := [.slice p l.length cc, .int .i64 0, .int .i64 0]) (by simp only [sims, Int.reduceEq, Nat.reduceEqDiff]; rfl) rfl rfl (B1.low.skip 4) (Nat.le_trans B1.low.le (Nat.le_add_right _ _)) (by rw [next_skip]; omega) fun s2 B2 n2 f2 => Wo_all (by simp only [sims, Int.reduceEq, Nat.reduceEqDiff]; rfl) ?_)))
  rw [next_skip] at n2
  have O2 : Row s2 s.next (replyZ.cells (.slice none 0 0) (.slice none 0 0)) := by
    obtain ⟨es, e⟩ := B1.at_
    exact ⟨es, by rw [f2 _ (by omega), get_skip]; exact e⟩
  have R2 : Rd s2 s.next (s1.next + 2) (.slice p l.length cc) l (0, 0) := ⟨B2.at_, hs.low B2.low (Nat.le_refl _), by omega, by omega, Nat.zero_le _, hl⟩
  refine W_seq (W_ops (Wo_alloc (lo := s.next) (s0 := s) (B2.low.skip 1) (Nat.le_trans B2.low.le (Nat.le_add_right _ _)) (by rw [next_skip]; omega) fun s5 B5 n5 f5 => Wo_nil ?_))
  rw [Nat.add_zero] at B5 f5
  rw [next_skip] at n5
  have K5 : But s2.next s2 s5 := ⟨by omega, fun b hb hne => by rw [f5 _ hne, get_skip]⟩
  refine W_gen (T := [(4, ptr (s1.next + 2) 0), (5, ptr s2.next 0), (2, ptr s.next 0)]) (all_cons (by simp only [sims, Int.reduceEq, Nat.reduceEqDiff]) (all_cons (by simp only [sims, Int.reduceEq, Nat.reduceEqDiff]) (all_cons (by simp only [sims, Int.reduceEq, Nat.reduceEqDiff]) all_nil))) fun fr5 h5 => ?_
  have G0 : Gt s 4 5 2 s.next (s1.next + 2) s2.next s.next (.slice p l.length cc) l (replyZ.cells (.slice none 0 0) (.slice none 0 0)) fr5 s5 (0, 0) (replyZ.cells (.slice none 0 0) (.slice none 0 0)) :=
    { r := h5 _ (.head _), b := h5 _ (.tail _ (.head _)), o := h5 _ (.tail _ (.tail _ (.head _))), rd := R2.but K5 (by omega) (by omega), box := B5.at_, out := O2.but K5 (by omega) (by omega),
      ac := by omega, ad := by omega, cd := by omega, hc := by omega, hd := by omega, mc := by omega, mh := by omega, keep := (B2.low.but _).over K5 (by omega) }
  clear h5
  refine W_seq (G0.val (ws := [.int .i64 (2 : Nat)]) (y := (gr1 l).2) hC._tithing_tithingref26_reader_number.prim (fun _ => rfl) (refnumber_run hC hC._tithing_tithingref26_reader_number G0.rd (n := 2) (by decide)) rfl rfl (le_by rfl) (by decide) fun fr5 s5 _ G0 => ?_)
  refine W_seq (G0.val (ws := []) (y := (gr2 l).2) hC._tithing_tithingref26_reader_four.prim (fun _ => rfl) (reffour_run hC hC._tithing_tithingref26_reader_four G0.rd) rfl rfl (le_by rfl) (by decide) fun fr6 s6 _ G6 => ?_)
  have G6 : Gt s 4 5 2 s.next (s1.next + 2) s2.next s.next (.slice p l.length cc) l (replyZ.cells (.slice none 0 0) (.slice none 0 0)) fr6 s6 (gr2 l).2 (ReplyC.cells ⟨((gr1 l).1 : Nat), (gr2 l).1, []⟩ (.slice none 0 0) (.slice none 0 0)) := G6
  clear G0
  have k4 := G6.r
  have k5 := G6.b
  have k2 := G6.o
  first | refine W_seq (W_opsM (Wo_run (by simp only [sims, Int.reduceEq, Nat.reduceEqDiff, k4]; rfl) (Wo_call hC._tithing_tithingref26_reader_sized.prim (by simp only [sims, Int.reduceEq, Nat.reduceEqDiff, k4]; try rfl) ((sized_run hC hC._tithing_tithingref26_reader_sized G6.rd (n := 65535) (by decide)).mono ?_)))) | refine W_seq (W_ops (Wo_run (by simp only [sims, Int.reduceEq, Nat.reduceEqDiff, k4]; rfl) (Wo_call hC._tithing_tithingref26_reader_sized.prim (by simp only [sims, Int.reduceEq, Nat.reduceEqDiff, k4]; try rfl) ((sized_run hC hC._tithing_tithingref26_reader_sized G6.rd (n := 65535) (by decide)).mono ?_))))
  rintro w7 s7 ⟨R7, B7, S7⟩
  have G7 := G6.go (y := (gr3 l).2) R7 B7
  refine Wo_op (v := strOf (gr3 l).1) (s' := s7) (convBS_of (by simp only [sims, Int.reduceEq, Nat.reduceEqDiff]) S7.1 _ _) ?_
  obtain ⟨s8, p8, G8, -⟩ := G7.put (i := 2) (vs := [strOf (gr3 l).1]) (le_by rfl)
  refine Wo_all (by simp only [sims, Int.reduceEq, Nat.reduceEqDiff, k5, p8]; rfl) ?_
  refine W_gen (T := [(4, ptr (s1.next + 2) 0), (5, ptr s2.next 0), (2, ptr s.next 0)]) (all_cons (by simp only [sims, Int.reduceEq, Nat.reduceEqDiff, k4]) (all_cons (by simp only [sims, Int.reduceEq, Nat.reduceEqDiff, k5]) (all_cons (by simp only [sims, Int.reduceEq, Nat.reduceEqDiff, k2]) all_nil))) fun fr8 h8 => ?_
  have G8 : Gt s 4 5 2 s.next (s1.next + 2) s2.next s.next (.slice p l.length cc) l (replyZ.cells (.slice none 0 0) (.slice none 0 0)) fr8 s8 (gr3 l).2 ((getY l).cells (.slice none 0 0) (.slice none 0 0)) :=
    { G8 with r := h8 _ (.head _), b := h8 _ (.tail _ (.head _)), o := h8 _ (.tail _ (.tail _ (.head _))) }
  clear h8 G7 G6
  refine W_seq (G8.field (ws := [.int .i64 (300 : Nat)]) (P := fun r s' => Mid s' s8.next s'.next 1 r ((gr4 l).1.map ofByte) ∧ s8.next ≤ s'.next) hC._tithing_tithingref26_reader_sized.prim (fun _ => rfl) ((sized_run hC hC._tithing_tithingref26_reader_sized G8.rd (n := 300) (by decide)).mono fun r s' h => ⟨⟨h.2.2, h.2.1.1⟩, h.1, h.2.1⟩) (by rintro r s' ⟨h, -⟩; exact ⟨h.cells.1, by rw [h.cells.2]; rfl⟩) (le_by rfl) (by decide) ?_)
  rintro w fr9 s9' s9 ⟨gw, hs89⟩ Bw _ G9
  have gw := (gw.but Bw (Nat.le_refl _) (.inl G8.hc)).wide Bw.1
  rw [gw.cells.2] at G9
  have G9 : Gt s 4 5 2 s.next (s1.next + 2) s2.next s.next (.slice p l.length cc) l (replyZ.cells (.slice none 0 0) (.slice none 0 0)) fr9 s9 (gr4 l).2 ((getY l).cells w (.slice none 0 0)) := G9
  have q4 := G9.r
  have q5 := G9.b
  have q2 := G9.o
  first | refine W_seq (W_opsM (Wo_run (by simp only [sims, Int.reduceEq, Nat.reduceEqDiff, q4]; rfl) (Wo_call hC._tithing_tithingref26_reader_number.prim (by simp only [sims, Int.reduceEq, Nat.reduceEqDiff, q4]; try rfl) ((refnumber_run hC hC._tithing_tithingref26_reader_number G9.rd (n := 1) (by decide)).mono ?_)))) | refine W_seq (W_ops (Wo_run (by simp only [sims, Int.reduceEq, Nat.reduceEqDiff, q4]; rfl) (Wo_call hC._tithing_tithingref26_reader_number.prim (by simp only [sims, Int.reduceEq, Nat.reduceEqDiff, q4]; try rfl) ((refnumber_run hC hC._tithing_tithingref26_reader_number G9.rd (n := 1) (by decide)).mono ?_))))
  rintro _ s10' ⟨rfl, R10', B10'⟩
  have gw := (gw.but B10' (Nat.le_refl _) (.inl G8.rd.lt)).wide B10'.1
  refine Wo_all (by simp only [sims, Int.reduceEq, Nat.reduceEqDiff]; rfl) ?_
  have dm : decide ((((fxP l 1 (gr4 l).2).1 : Nat) : Int) ≤ 20) = decide ((fxP l 1 (gr4 l).2).1 ≤ 20) := decide_eq_decide.2 (by omega)
  first | refine W_seq (W_opsM (Wo_run (by simp only [sims, Int.reduceEq, Nat.reduceEqDiff, q4, dm]; rfl) (Wo_call hC._tithing_tithingref26_reader_check.prim (by simp only [sims, Int.reduceEq, Nat.reduceEqDiff, q4, dm]; try rfl) ((check_run hC._tithing_tithingref26_reader_check R10' (decide ((fxP l 1 (gr4 l).2).1 ≤ 20)) 3).mono ?_)))) | refine W_seq (W_ops (Wo_run (by simp only [sims, Int.reduceEq, Nat.reduceEqDiff, q4, dm]; rfl) (Wo_call hC._tithing_tithingref26_reader_check.prim (by simp only [sims, Int.reduceEq, Nat.reduceEqDiff, q4, dm]; try rfl) ((check_run hC._tithing_tithingref26_reader_check R10' (decide ((fxP l 1 (gr4 l).2).1 ≤ 20)) 3).mono ?_))))
  have hc5 : chkP (decide ((fxP l 1 (gr4 l).2).1 ≤ 20)) 3 (fxP l 1 (gr4 l).2).2 = (gr5 l).2 := by
    show _ = (msP l 20 (gr4 l).2).2
    unfold msP
    by_cases hq : (fxP l 1 (gr4 l).2).1 ≤ 20
    · rw [decide_eq_true hq, chkP_true, if_neg (by omega)]
    · rw [decide_eq_false hq, chkP_false, if_pos (by omega)]
  rw [hc5]
  rintro _ s10 ⟨R10, B10''⟩
  have B10 := B10'.trans B10''
  have G10 := G9.go (y := (gr5 l).2) R10 B10
  have gw := (gw.but B10'' (Nat.le_refl _) (.inl G8.rd.lt)).wide B10''.1
  refine Wo_nil ?_
  show W E _ _ s10 _
  refine W_seq (W_seq (W_region (by simp only [sims, Int.reduceEq, Nat.reduceEqDiff]; rfl) ?_))
  have hn5 := fxP_lt l 1 (gr4 l).2
  refine W_block (refitems_loop hC (s0 := s) (hi := s.next) (a := s1.next + 2) (c := s2.next) (d := s.next) (L := s10.next) (L0 := s8.next) (n := (gr5 l).1) (v := .slice p l.length cc) (l := l) (dt := (gr4 l).1) (y := getY l) (x0 := (gr5 l).2) (zs := replyZ.cells (.slice none 0 0) (.slice none 0 0)) (w := w) (Nat.le_of_lt_succ hn5) ?_ ((gr5 l).1 - 0) _ s10 ⟨0, (gr5 l).2, [], .slice none 0 0, rfl, ?_⟩)
  rotate_left
  · have gm := gw
    exact { le := Nat.zero_le _, num := Nat.le_refl _, so := rfl, g := { G10 with r := by simp only [sims, Int.reduceEq, Nat.reduceEqDiff, q4], b := by simp only [sims, Int.reduceEq, Nat.reduceEqDiff, q5], o := by simp only [sims, Int.reduceEq, Nat.reduceEqDiff, q2] }, f7 := by simp only [sims, Int.reduceEq, Nat.reduceEqDiff]; rfl, f6 := by simp only [sims, Int.reduceEq, Nat.reduceEqDiff]; rfl, u4 := .nil, w1 := gm, hL := Nat.le_refl _, aL := G8.rd.lt, cL := G8.hc, dL := G8.hd, L0L := Nat.le_trans hs89 (Nat.le_trans Bw.1 B10.1), sL := G10.keep.1 }
  intro fr11 s11 x11 acc u hx G11 gu gw hL
  show W E _ _ _ _
  obtain ⟨rfl, rfl⟩ : acc = (gr6 l).1 ∧ x11 = (gr6 l).2 := ⟨congrArg Prod.fst hx, congrArg Prod.snd hx⟩
  clear hx
  have r4 := G11.r
  have r5 := G11.b
  have r2 := G11.o
  first | refine W_seq (W_seq (W_opsM (Wo_run (by simp only [sims, Int.reduceEq, Nat.reduceEqDiff, r4]; rfl) (Wo_call hC._tithing_tithingref26_reader_end.prim (by simp only [sims, Int.reduceEq, Nat.reduceEqDiff, r4]; try rfl) ((refend_run hC hC._tithing_tithingref26_reader_end G11.rd).mono ?_))))) | refine W_seq (W_seq (W_ops (Wo_run (by simp only [sims, Int.reduceEq, Nat.reduceEqDiff, r4]; rfl) (Wo_call hC._tithing_tithingref26_reader_end.prim (by simp only [sims, Int.reduceEq, Nat.reduceEqDiff, r4]; try rfl) ((refend_run hC hC._tithing_tithingref26_reader_end G11.rd).mono ?_)))))
  rintro _ s12 ⟨rfl, R12, B12⟩
  have G12 := G11.go R12 B12
  have aL : s1.next + 2 < s10.next := Nat.lt_of_lt_of_le G10.rd.lt (Nat.le_refl _)
  have gu := gu.but B12 aL
  have gw := gw.but B12 hL (.inl G8.rd.lt)
  refine Wo_all (by simp only [sims, Int.reduceEq, Nat.reduceEqDiff]; rfl) ?_
  have hE : (enP l (gr6 l).2).2 = grE l := rfl
  rw [hE]
  by_cases he : grE l = 0
  · refine W_seq (W_region (by simp only [sims, Int.reduceEq, Nat.reduceEqDiff, he]; rfl) ?_)
    refine W_else (by simp only [sims, Int.reduceEq, Nat.reduceEqDiff]) (W_skip ?_)
    have rw12 : s12.row ⟨s2.next, 0, none⟩ 5 = some ((getY l).cells w u) := G12.box.row rfl
    obtain ⟨z, pz, Z, nz, fz⟩ := G12.out.put (o := 0) (vs := (getY l).cells w u) (Nat.le_refl _)
    have Z : Row z s.next ((getY l).cells w u) := Z
    have BZ := but_put nz fz
    have hl5' : Nat.beq (lenL ((getY l).cells w u)) 5 = true := rfl
    refine W_seq (W_region (by simp only [sims, Int.reduceEq, Nat.reduceEqDiff, r2, r5, rw12, hl5', pz]; rfl) ?_)
    refine W_ret ⟨rfl, _, res_cell (by simp only [sims, Int.reduceEq, Nat.reduceEqDiff, r2]) (Z.row rfl) (res_tmp res_nil), (G12.keep.over BZ (Nat.le_refl _)).new (by omega), .inr ⟨he, w, u, ?_, ?_, ?_⟩⟩
    · show tupled [_, orUndef (Tr.get _ 3)] = _
      rw [Tr.get_set_same]; rfl
    · exact ((gw.but BZ (Nat.le_trans hL B12.1) (.inl G8.hd)).wide (Nat.le_trans (Nat.le_trans hL B12.1) BZ.1)).weak G8.keep.1
    · exact (gu.but BZ G10.hd).mid.weak G10.keep.1
  · have dE : decide (grE l = 0) = false := decide_eq_false he
    refine W_seq (W_region (by simp only [sims, Int.reduceEq, Nat.reduceEqDiff, dE]; rfl) ?_)
    refine W_then (by simp only [sims, Int.reduceEq, Nat.reduceEqDiff]) ?_
    obtain ⟨z, pz, Z, nz, fz⟩ := G12.out.put (o := 0) (vs := replyZ.cells (.slice none 0 0) (.slice none 0 0)) (Nat.le_refl _)
    have Z : Row z s.next (replyZ.cells (.slice none 0 0) (.slice none 0 0)) := Z
    have BZ := but_put nz fz
    have hl5' : Nat.beq (lenL (replyZ.cells (.slice none 0 0) (.slice none 0 0))) 5 = true := rfl
    refine W_seq (W_ops (Wo_build (l := replyZ.cells (.slice none 0 0) (.slice none 0 0)) rfl (Wo_all (by simp only [sims, Int.reduceEq, Nat.reduceEqDiff, r2, hl5', pz]; rfl) ?_)))
    refine W_ret ⟨rfl, _, res_cell (by simp only [sims, Int.reduceEq, Nat.reduceEqDiff, r2]) (Z.row rfl) (res_tmp res_nil), (G12.keep.over BZ (Nat.le_refl _)).new (by omega), .inl ⟨he, ?_⟩⟩
    show tupled [_, orUndef (Tr.get _ 3)] = _
    rw [Tr.get_set_same]; rfl
end
end
end Go.Ev
