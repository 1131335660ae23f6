/-
  The bytes of a call, the document's side.
-/
import Derived.Test.YtmpckglmfklfiaaGreatDoorCdWrite
set_option linter.unusedVariables false
set_option linter.unusedSimpArgs false
namespace Go.Ev
noncomputable section
section
variable {E : Env} {f : FuncId} {s t : St} {L a : Nat} {b : List UInt8} {q : Bool} {v : Value}
theorem Sl.bl {hi size : Nat} {cs : List Value} (h : Sl s hi size v cs) (k : Bl L a s t) (hh : hi ≤ L) (ha : hi ≤ a) : Sl t hi size v cs := by
  cases h with
  | nil => exact .nil
  | mk hb hg hl hc => exact .mk hb (by rw [k.2 _ (by omega) (by omega)]; exact hg) hl hc
theorem Row.bl {c : Nat} {cs : List Value} (h : Row s c cs) (k : Bl L a s t) (hc : c < L) (ha : c ≠ a) : Row t c cs := by obtain ⟨es, h⟩ := h; exact ⟨es, by rw [k.2 c hc ha]; exact h⟩
def CallC.raw (c : CallC) : List UInt8 :=
  countB c.do_ ++ beB 4 (clampN c.dir) ++ beB 4 (clampN c.file) ++ beB 4 (clampN c.ref) ++ beB 4 (clampN c.from_) ++ beB 4 (clampN c.many) ++ countB c.name ++ countB c.to
def CallC.sick (c : CallC) : Bool :=
  (((((((false || decide ((31 : Int) < (c.do_.length : Nat))) || !numberOk c.dir) || !numberOk c.file) || !numberOk c.ref) || !numberOk c.from_) || !numberOk c.many) || decide ((31 : Int) < (c.name.length : Nat))) || decide ((31 : Int) < (c.to.length : Nat))
theorem sick_bad (c : CallC) (l : List UInt8) : (c.sick || decide (200 < l.length)) = c.bad l := by
  have e : decide ((200 : Int) < (l.length : Nat)) = decide (200 < l.length) := decide_eq_decide.2 (by omega)
  unfold CallC.sick CallC.bad CallC.numbers
  rw [e]
  simp only [List.any_cons, List.any_nil, Bool.or_false, Bool.false_or]
  ac_rfl
set_option maxHeartbeats 4000000 in
theorem refPutCall_run (hC : Codes E) (hf : Has E f Code.tithingref26_PutCall) {c : CallC} {w : Value} {l : List UInt8} (hw : Sl s s.next 1 w (l.map ofByte)) (h1 : c.do_.length ≤ 60) (h2 : c.name.length ≤ 60) (h3 : c.to.length ≤ 60) (h4 : l.length ≤ 500) :
    Cv E f [.agg ⟨c.cells w⟩] s fun r s' => Low s.next s s' ∧ ((c.ok l ∧ ∃ x, r = .tuple ⟨[x, .int .i64 0]⟩ ∧ Gr s' s.next 1 x ((c.bytes l).map ofByte)) ∨ (¬ c.ok l ∧ r = .tuple ⟨[.slice none 0 0, .int .i64 2]⟩)) := by
  obtain ⟨p, n, k, rfl, hn⟩ := hw.parts
  have hnl : n = l.length := by rw [List.length_map] at hn; omega
  subst hnl
  refine Cv_of hf.code ?_
  have h0 : (Tr.ofList (.e : Fr) 0 [.agg ⟨c.cells (.slice p l.length k)⟩]).get 0 = some (.agg ⟨c.cells (.slice p l.length k)⟩) := rfl
  generalize (Tr.ofList (.e : Fr) 0 [.agg ⟨c.cells (.slice p l.length k)⟩]) = fr0 at h0
  unfold Code.tithingref26_PutCall
  have nth0 : ∀ (x y : Value), nthL [x, y] 0 = some x := fun _ _ => rfl
  have nth1 : ∀ (x y : Value), nthL [x, y] 1 = some y := fun _ _ => rfl
  refine W_seq (W_ops (Wo_box (lo := s.next) (s0 := s) (z := c.cells (.slice p l.length k)) (by simp only [sims, Int.reduceEq, Nat.reduceEqDiff, h0]; rfl) rfl rfl ((Low.self s).skip 3) (Nat.le_add_right _ _) (by rw [next_skip]; omega) fun s1 B1 n1 _ => Wo_all (by simp only [sims, Int.reduceEq, Nat.reduceEqDiff]; rfl) ?_))
  rw [Nat.add_zero] at B1
  rw [next_skip] at n1
  refine W_seq (W_ops (Wo_build (l := [.slice none 0 0, .bool false]) rfl (Wo_box (lo := s.next) (s0 := s) (z := [.slice none 0 0, .bool false]) (by simp only [sims, Int.reduceEq, Nat.reduceEqDiff]; rfl) rfl rfl (B1.low.skip 3) (Nat.le_trans B1.low.le (Nat.le_add_right _ _)) (by rw [next_skip]; omega) fun s2 B2 n2 f2 => Wo_all (by simp only [sims, Int.reduceEq, Nat.reduceEqDiff]; rfl) ?_)))
  rw [next_skip] at n2
  have A2 : Row s2 s.next (c.cells (.slice p l.length k)) := by
    obtain ⟨es, e⟩ := B1.at_
    exact ⟨es, by rw [f2 _ (by omega), get_skip]; exact e⟩
  have W2 : Wt s2 s2.next (s1.next + 1) [] false (.slice none 0 0) := ⟨B2.at_, .nil, by omega, Nat.le_refl _⟩
  refine W_gen (T := [(1, ptr s.next 0), (4, ptr (s1.next + 1) 0)]) (all_cons (by simp only [sims, Int.reduceEq, Nat.reduceEqDiff]) (all_cons (by simp only [sims, Int.reduceEq, Nat.reduceEqDiff]) all_nil)) fun fr2 g2 => ?_
  have k1 := g2 _ (.head _)
  have k4 := g2 _ (.tail _ (.head _))
  simp only at k1 k4
  clear g2
  generalize hL : s2.next = L at W2
  have hLs : s.next + 6 ≤ L := by omega
  generalize ha : s1.next + 1 = a at W2 k4
  have hsa : s.next < a := by omega
  have haL : a < L := by omega
  have A := A2
  have d0 : s2.cell ⟨s.next, 0, none⟩ = some (strOf c.do_) := A.cell 0
  first | refine W_seq (W_opsM (Wo_run (by simp only [sims, Int.reduceEq, Nat.reduceEqDiff, k1, k4, d0]; rfl) (Wo_call hC._tithing_tithingref26_writer_text.prim (by simp only [sims, Int.reduceEq, Nat.reduceEqDiff, k1, k4, d0]; try rfl) ((writer_text_run hC._tithing_tithingref26_writer_text W2 c.do_ (by simp; omega)).mono ?_)))) | refine W_seq (W_ops (Wo_run (by simp only [sims, Int.reduceEq, Nat.reduceEqDiff, k1, k4, d0]; rfl) (Wo_call hC._tithing_tithingref26_writer_text.prim (by simp only [sims, Int.reduceEq, Nat.reduceEqDiff, k1, k4, d0]; try rfl) ((writer_text_run hC._tithing_tithingref26_writer_text W2 c.do_ (by simp; omega)).mono ?_))))
  rintro _ s3 ⟨C3, v3, W3⟩
  refine Wo_nil ?_
  show W E _ _ s3 _
  have A := A2.bl C3 (by omega) (by omega)
  have d0 : s3.cell ⟨s.next, 1, none⟩ = some (.int .i64 c.dir) := A.cell 1
  first | refine W_seq (W_opsM (Wo_run (by simp only [sims, Int.reduceEq, Nat.reduceEqDiff, k1, k4, d0]; rfl) (Wo_call hC._tithing_tithingref26_writer_four.prim (by simp only [sims, Int.reduceEq, Nat.reduceEqDiff, k1, k4, d0]; try rfl) ((writer_four_run hC._tithing_tithingref26_writer_four W3 c.dir (by simp [countB]; omega)).mono ?_)))) | refine W_seq (W_ops (Wo_run (by simp only [sims, Int.reduceEq, Nat.reduceEqDiff, k1, k4, d0]; rfl) (Wo_call hC._tithing_tithingref26_writer_four.prim (by simp only [sims, Int.reduceEq, Nat.reduceEqDiff, k1, k4, d0]; try rfl) ((writer_four_run hC._tithing_tithingref26_writer_four W3 c.dir (by simp [countB]; omega)).mono ?_))))
  rintro _ s4 ⟨C4, v4, W4⟩
  refine Wo_nil ?_
  show W E _ _ s4 _
  have C4 := C3.trans C4
  have A := A2.bl C4 (by omega) (by omega)
  have d0 : s4.cell ⟨s.next, 2, none⟩ = some (.int .i64 c.file) := A.cell 2
  first | refine W_seq (W_opsM (Wo_run (by simp only [sims, Int.reduceEq, Nat.reduceEqDiff, k1, k4, d0]; rfl) (Wo_call hC._tithing_tithingref26_writer_four.prim (by simp only [sims, Int.reduceEq, Nat.reduceEqDiff, k1, k4, d0]; try rfl) ((writer_four_run hC._tithing_tithingref26_writer_four W4 c.file (by simp [countB, beB_length]; omega)).mono ?_)))) | refine W_seq (W_ops (Wo_run (by simp only [sims, Int.reduceEq, Nat.reduceEqDiff, k1, k4, d0]; rfl) (Wo_call hC._tithing_tithingref26_writer_four.prim (by simp only [sims, Int.reduceEq, Nat.reduceEqDiff, k1, k4, d0]; try rfl) ((writer_four_run hC._tithing_tithingref26_writer_four W4 c.file (by simp [countB, beB_length]; omega)).mono ?_))))
  rintro _ s5 ⟨C5, v5, W5⟩
  refine Wo_nil ?_
  show W E _ _ s5 _
  have C5 := C4.trans C5
  have A := A2.bl C5 (by omega) (by omega)
  have d0 : s5.cell ⟨s.next, 5, none⟩ = some (.int .i64 c.ref) := A.cell 5
  first | refine W_seq (W_opsM (Wo_run (by simp only [sims, Int.reduceEq, Nat.reduceEqDiff, k1, k4, d0]; rfl) (Wo_call hC._tithing_tithingref26_writer_four.prim (by simp only [sims, Int.reduceEq, Nat.reduceEqDiff, k1, k4, d0]; try rfl) ((writer_four_run hC._tithing_tithingref26_writer_four W5 c.ref (by simp [countB, beB_length]; omega)).mono ?_)))) | refine W_seq (W_ops (Wo_run (by simp only [sims, Int.reduceEq, Nat.reduceEqDiff, k1, k4, d0]; rfl) (Wo_call hC._tithing_tithingref26_writer_four.prim (by simp only [sims, Int.reduceEq, Nat.reduceEqDiff, k1, k4, d0]; try rfl) ((writer_four_run hC._tithing_tithingref26_writer_four W5 c.ref (by simp [countB, beB_length]; omega)).mono ?_))))
  rintro _ s6 ⟨C6, v6, W6⟩
  refine Wo_nil ?_
  show W E _ _ s6 _
  have C6 := C5.trans C6
  have A := A2.bl C6 (by omega) (by omega)
  have d0 : s6.cell ⟨s.next, 6, none⟩ = some (.int .i64 c.from_) := A.cell 6
  first | refine W_seq (W_opsM (Wo_run (by simp only [sims, Int.reduceEq, Nat.reduceEqDiff, k1, k4, d0]; rfl) (Wo_call hC._tithing_tithingref26_writer_four.prim (by simp only [sims, Int.reduceEq, Nat.reduceEqDiff, k1, k4, d0]; try rfl) ((writer_four_run hC._tithing_tithingref26_writer_four W6 c.from_ (by simp [countB, beB_length]; omega)).mono ?_)))) | refine W_seq (W_ops (Wo_run (by simp only [sims, Int.reduceEq, Nat.reduceEqDiff, k1, k4, d0]; rfl) (Wo_call hC._tithing_tithingref26_writer_four.prim (by simp only [sims, Int.reduceEq, Nat.reduceEqDiff, k1, k4, d0]; try rfl) ((writer_four_run hC._tithing_tithingref26_writer_four W6 c.from_ (by simp [countB, beB_length]; omega)).mono ?_))))
  rintro _ s7 ⟨C7, v7, W7⟩
  refine Wo_nil ?_
  show W E _ _ s7 _
  have C7 := C6.trans C7
  have A := A2.bl C7 (by omega) (by omega)
  have d0 : s7.cell ⟨s.next, 7, none⟩ = some (.int .i64 c.many) := A.cell 7
  first | refine W_seq (W_opsM (Wo_run (by simp only [sims, Int.reduceEq, Nat.reduceEqDiff, k1, k4, d0]; rfl) (Wo_call hC._tithing_tithingref26_writer_four.prim (by simp only [sims, Int.reduceEq, Nat.reduceEqDiff, k1, k4, d0]; try rfl) ((writer_four_run hC._tithing_tithingref26_writer_four W7 c.many (by simp [countB, beB_length]; omega)).mono ?_)))) | refine W_seq (W_ops (Wo_run (by simp only [sims, Int.reduceEq, Nat.reduceEqDiff, k1, k4, d0]; rfl) (Wo_call hC._tithing_tithingref26_writer_four.prim (by simp only [sims, Int.reduceEq, Nat.reduceEqDiff, k1, k4, d0]; try rfl) ((writer_four_run hC._tithing_tithingref26_writer_four W7 c.many (by simp [countB, beB_length]; omega)).mono ?_))))
  rintro _ s8 ⟨C8, v8, W8⟩
  refine Wo_nil ?_
  show W E _ _ s8 _
  have C8 := C7.trans C8
  have A := A2.bl C8 (by omega) (by omega)
  have d0 : s8.cell ⟨s.next, 3, none⟩ = some (strOf c.name) := A.cell 3
  first | refine W_seq (W_opsM (Wo_run (by simp only [sims, Int.reduceEq, Nat.reduceEqDiff, k1, k4, d0]; rfl) (Wo_call hC._tithing_tithingref26_writer_text.prim (by simp only [sims, Int.reduceEq, Nat.reduceEqDiff, k1, k4, d0]; try rfl) ((writer_text_run hC._tithing_tithingref26_writer_text W8 c.name (by simp [countB, beB_length]; omega)).mono ?_)))) | refine W_seq (W_ops (Wo_run (by simp only [sims, Int.reduceEq, Nat.reduceEqDiff, k1, k4, d0]; rfl) (Wo_call hC._tithing_tithingref26_writer_text.prim (by simp only [sims, Int.reduceEq, Nat.reduceEqDiff, k1, k4, d0]; try rfl) ((writer_text_run hC._tithing_tithingref26_writer_text W8 c.name (by simp [countB, beB_length]; omega)).mono ?_))))
  rintro _ s9 ⟨C9, v9, W9⟩
  refine Wo_nil ?_
  show W E _ _ s9 _
  have C9 := C8.trans C9
  have A := A2.bl C9 (by omega) (by omega)
  have d0 : s9.cell ⟨s.next, 4, none⟩ = some (strOf c.to) := A.cell 4
  first | refine W_seq (W_opsM (Wo_run (by simp only [sims, Int.reduceEq, Nat.reduceEqDiff, k1, k4, d0]; rfl) (Wo_call hC._tithing_tithingref26_writer_text.prim (by simp only [sims, Int.reduceEq, Nat.reduceEqDiff, k1, k4, d0]; try rfl) ((writer_text_run hC._tithing_tithingref26_writer_text W9 c.to (by simp [countB, beB_length]; omega)).mono ?_)))) | refine W_seq (W_ops (Wo_run (by simp only [sims, Int.reduceEq, Nat.reduceEqDiff, k1, k4, d0]; rfl) (Wo_call hC._tithing_tithingref26_writer_text.prim (by simp only [sims, Int.reduceEq, Nat.reduceEqDiff, k1, k4, d0]; try rfl) ((writer_text_run hC._tithing_tithingref26_writer_text W9 c.to (by simp [countB, beB_length]; omega)).mono ?_))))
  rintro _ s10 ⟨C10, v10, W10⟩
  refine Wo_nil ?_
  show W E _ _ s10 _
  have C10 := C9.trans C10
  have A := A2.bl C10 (by omega) (by omega)
  have W10 : Wt s10 L a c.raw c.sick v10 := W10
  clear W3 W4 W5 W6 W7 W8 W9 C3 C4 C5 C6 C7 C8 C9
  have hraw : c.raw.length ≤ 300 := by simp [CallC.raw, countB, beB_length]; omega
  have d0 : s10.cell ⟨a, 0, none⟩ = some v10 := W10.row.cell 0
  have dm : s10.row ⟨s.next, 8, none⟩ 4 = some [.bool c.b0, .bool c.b1, .bool c.b2, .bool c.b3] := A.part (by show 8 + 4 ≤ 19; decide)
  have hs10 := W10.le
  have l0 : Low s10.next s10 (s10.skip 13) := (Low.self s10).skip 13
  have hn0 := next_skip s10 13
  refine W_seq (W_ops (Wo_run (by simp only [sims, Int.reduceEq, Nat.reduceEqDiff, k1, k4, d0, dm, nilOk_ptr]; rfl) (Wo_callA hC.tithingref26_mode.prim (args := [.agg ⟨[.bool c.b0, .bool c.b1, .bool c.b2, .bool c.b3]⟩]) (by simp only [sims, Int.reduceEq, Nat.reduceEqDiff]) ((mode_run hC.tithingref26_mode c.b0 c.b1 c.b2 c.b3).mono ?_))))
  rintro _ s11 ⟨rfl, l11⟩
  have l1011 : Low s10.next s10 s11 := l0.trans (l11.weak l0.2.1)
  have n11 := l11.2.1
  have W11 := W10.low l1011
  have d1 : s11.cell ⟨a, 0, none⟩ = some v10 := W11.row.cell 0
  refine ⟨again_load1 (a := 44) (p := ⟨a, 0, none⟩) (v := v10) (by simp only [sims, Int.reduceEq, Nat.reduceEqDiff]) d1 (by simp only [sims, Int.reduceEq, Nat.reduceEqDiff]) W11.gr.sl.same again_nil, ?_⟩
  have hm16 : modeN [c.b0, c.b1, c.b2, c.b3] < 16 := modeN_lt [c.b0, c.b1, c.b2, c.b3]
  have hmode : Value.int .u8 ((modeN [c.b0, c.b1, c.b2, c.b3] : Nat) : Int) = ofByte (UInt8.ofNat (modeN c.modes)) := by
    rw [ofByte_ofNat, Nat.mod_eq_of_lt (by show modeN [c.b0, c.b1, c.b2, c.b3] < 256; omega)]; rfl
  refine Wo_buildSlice (size := 1) (lo := s10.next) (cs := [UInt8.ofNat (modeN c.modes)].map ofByte) (by simp only [sims, Int.reduceEq, Nat.reduceEqDiff]; rw [hmode]; rfl) rfl (Nat.le_add_right _ _) (by omega) (by decide) ?_
  rintro s12 ⟨D12, -⟩ l12 hs12
  have l1012 : Low s10.next s10 s12 := l1011.trans l12
  have W12 := W10.low l1012
  obtain ⟨v13, s13, s14, e13, p13, W14, B14, x14, y14⟩ := W12.app D12.feed (by simp; omega) 5
  refine Wo_all (by simp only [sims, Int.reduceEq, Nat.reduceEqDiff, k4, nilOk_ptr, e13, p13, x14.1, x14.2, y14]; rfl) ?_
  have C14 : Bl L a s2 s14 := C10.trans (((l1012.weak hs10).bl).trans B14)
  have A := A2.bl C14 (by omega) (by omega)
  have dr : s14.row ⟨s.next, 12, none⟩ 6 = some (rightsC c.o c.g c.fo c.fg c.fa c.bl) := A.part (by show 12 + 6 ≤ 19; decide)
  first | refine W_seq (W_opsM (Wo_run (by simp only [sims, Int.reduceEq, Nat.reduceEqDiff, k1, dr]; rfl) (Wo_call hC.tithingref25_PutRights.prim (by simp only [sims, Int.reduceEq, Nat.reduceEqDiff, k1, dr]; try rfl) ((refPutRights_run hC hC.tithingref25_PutRights (o := c.o) (g := c.g) (fo := c.fo) (fg := c.fg) (fa := c.fa) (b := c.bl)).mono ?_)))) | refine W_seq (W_ops (Wo_run (by simp only [sims, Int.reduceEq, Nat.reduceEqDiff, k1, dr]; rfl) (Wo_call hC.tithingref25_PutRights.prim (by simp only [sims, Int.reduceEq, Nat.reduceEqDiff, k1, dr]; try rfl) ((refPutRights_run hC hC.tithingref25_PutRights (o := c.o) (g := c.g) (fo := c.fo) (fg := c.fg) (fa := c.fa) (b := c.bl)).mono ?_))))
  intro r15 s15 hr15
  obtain ⟨x1, e1, rfl, hx1, l15⟩ : ∃ (x1 : Value) (e1 : Int), r15 = .tuple ⟨[x1, .int .i64 e1]⟩ ∧ (∃ m : List UInt8, m.length ≤ 20 ∧ Sl s15 s15.next 1 x1 (m.map ofByte) ∧ ((e1 = 0 ∧ okR c.o c.g c.fo c.fg c.fa ∧ m = bytesR c.o c.g c.fo c.fg c.fa c.bl) ∨ (e1 = 2 ∧ ¬ okR c.o c.g c.fo c.fg c.fa))) ∧ Low s14.next s14 s15 := by
    rcases hr15 with ⟨q1, x, rfl, q3, q4⟩ | ⟨q1, rfl, q4⟩
    · exact ⟨x, 0, rfl, ⟨_, by simp [bytesR, beB_length], q3.sl, .inl ⟨rfl, q1, rfl⟩⟩, q4⟩
    · exact ⟨_, 2, rfl, ⟨[], by simp, .nil, .inr ⟨rfl, q1⟩⟩, q4⟩
  obtain ⟨m, hm, sm', hx1⟩ := hx1
  refine Wo_all (by simp only [sims, Int.reduceEq, Nat.reduceEqDiff, nth0, nth1]; rfl) ?_
  have W15 := W14.low l15
  have d2 : s15.cell ⟨a, 0, none⟩ = some v13 := W15.row.cell 0
  obtain ⟨v16, s16, s17, e16, p16, W17, B17, x17, y17⟩ := W15.app sm'.feed (by simp; omega) 5
  refine W_seq (W_region (by simp only [sims, Int.reduceEq, Nat.reduceEqDiff, k4, d2, nilOk_ptr, e16, p16, x17.1, x17.2, y17]; rfl) ?_)
  have C17 : Bl L a s2 s17 := (C14.trans ((l15.weak W14.le).bl)).trans B17
  have A := A2.bl C17 (by omega) (by omega)
  have d3 : s17.cell ⟨s.next, 18, none⟩ = some (.slice p l.length k) := A.cell 18
  first | refine W_seq (W_opsM (Wo_run (by simp only [sims, Int.reduceEq, Nat.reduceEqDiff, k1, k4, d3, Int.ofNat_eq_natCast]; rfl) (Wo_call hC._tithing_tithingref26_writer_two.prim (by simp only [sims, Int.reduceEq, Nat.reduceEqDiff, k1, k4, d3, Int.ofNat_eq_natCast]; try rfl) ((writer_two_run hC._tithing_tithingref26_writer_two W17 l.length 200 (by omega) (by simp; omega)).mono ?_)))) | refine W_seq (W_ops (Wo_run (by simp only [sims, Int.reduceEq, Nat.reduceEqDiff, k1, k4, d3, Int.ofNat_eq_natCast]; rfl) (Wo_call hC._tithing_tithingref26_writer_two.prim (by simp only [sims, Int.reduceEq, Nat.reduceEqDiff, k1, k4, d3, Int.ofNat_eq_natCast]; try rfl) ((writer_two_run hC._tithing_tithingref26_writer_two W17 l.length 200 (by omega) (by simp; omega)).mono ?_))))
  rintro _ s18 ⟨C18, v18, W18⟩
  refine Wo_nil ?_
  show W E _ _ s18 _
  have C18 := C17.trans C18
  have A := A2.bl C18 (by omega) (by omega)
  have d3 : s18.cell ⟨s.next, 18, none⟩ = some (.slice p l.length k) := A.cell 18
  have d4 : s18.cell ⟨a, 0, none⟩ = some v18 := W18.row.cell 0
  have hw18 := (hw.low B2.low (Nat.le_refl _)).bl C18 (by omega) (by omega)
  obtain ⟨v19, s19, s20, e19, p19, W20, B20, x20, y20⟩ := W18.app hw18.feed (by simp [beB_length]; omega) 5
  refine W_seq (W_region (by simp only [sims, Int.reduceEq, Nat.reduceEqDiff, k1, k4, d3, d4, nilOk_ptr, e19, p19, x20.1, x20.2, y20]; rfl) ?_)
  have C20 := C18.trans B20
  have hbad := sick_bad c l
  rw [hbad] at W20
  have dq : s20.cell ⟨a, 1, none⟩ = some (.bool (c.bad l)) := W20.row.cell 1
  have dv : s20.cell ⟨a, 0, none⟩ = some v19 := W20.row.cell 0
  have low : Low s.next s s20 := B2.low.trans ⟨by have := B2.low.2.1; omega, C20.1, fun c hc => C20.2 c (by omega) (by omega)⟩
  have no : ¬ c.ok l → ∀ fr : Fr, W E (.seq (.region 0 [⟨some 2, .mov (.c (.slice none 0 0)), none, 0, []⟩, ⟨some 3, .mov (.c (.int .i64 2)), none, 1, []⟩]) .ret) fr s20 fun e fr s' => e = .ret ∧ s' = s20 ∧ fr.get 2 = some (.slice none 0 0) ∧ fr.get 3 = some (.int .i64 2) := fun _ fr => W_seq (W_region (by simp only [sims, Int.reduceEq, Nat.reduceEqDiff]; rfl) (W_ret ⟨rfl, rfl, by simp only [sims, Int.reduceEq, Nat.reduceEqDiff], by simp only [sims, Int.reduceEq, Nat.reduceEqDiff]⟩))
  cases hb : c.bad l with
  | true =>
    rw [hb] at dq
    have hno : ¬ c.ok l := fun h => absurd (h.2.symm.trans hb) Bool.false_ne_true
    refine W_seq (W_seq (W_region (by simp only [sims, Int.reduceEq, Nat.reduceEqDiff, k4, dq, nilOk_ptr]; rfl) ?_))
    refine W_then (by simp only [sims, Int.reduceEq, Nat.reduceEqDiff]) ((no hno _).mono ?_)
    rintro _ fr s' ⟨rfl, rfl, z2, z3⟩
    exact ⟨rfl, _, res_tmp (res_tmp res_nil), low, .inr ⟨hno, by rw [z2, z3]; rfl⟩⟩
  | false =>
    rw [hb] at dq
    rcases hx1 with ⟨rfl, hok, rfl⟩ | ⟨rfl, hno'⟩
    · refine W_seq (W_seq (W_region (by simp only [sims, Int.reduceEq, Nat.reduceEqDiff, k4, dq, nilOk_ptr]; rfl) ?_))
      refine W_else (by simp only [sims, Int.reduceEq, Nat.reduceEqDiff]) (W_skip ?_)
      refine W_seq (W_region (by simp only [sims, Int.reduceEq, Nat.reduceEqDiff, k4, dv, nilOk_ptr]; rfl) ?_)
      refine W_ret ⟨rfl, _, res_tmp (res_tmp res_nil), low, .inl ⟨⟨hok, hb⟩, v19, by simp only [sims, Int.reduceEq, Nat.reduceEqDiff, tupled], ?_⟩⟩
      have hnum : ∀ z ∈ c.numbers, numberOk z = true := by
        intro z hz
        unfold CallC.bad at hb
        simp only [Bool.or_eq_false_iff, List.any_eq_false] at hb
        simpa using hb.1.1.1.1 z hz
      have n1 := clampN_ok (hnum c.dir (by simp [CallC.numbers]))
      have n2 := clampN_ok (hnum c.file (by simp [CallC.numbers]))
      have n3 := clampN_ok (hnum c.ref (by simp [CallC.numbers]))
      have n4 := clampN_ok (hnum c.from_ (by simp [CallC.numbers]))
      have n5 := clampN_ok (hnum c.many (by simp [CallC.numbers]))
      have e : c.raw ++ [UInt8.ofNat (modeN c.modes)] ++ bytesR c.o c.g c.fo c.fg c.fa c.bl ++ beB 2 l.length ++ l = c.bytes l := by
        unfold CallC.raw
        rw [n1, n2, n3, n4, n5]
        simp [CallC.bytes, CallC.numbers]
      have g := W20.gr
      rw [e] at g
      exact g.weak (by omega)
    · have hno : ¬ c.ok l := fun h => hno' h.1
      refine W_seq (W_seq (W_region (by simp only [sims, Int.reduceEq, Nat.reduceEqDiff, k4, dq, nilOk_ptr]; rfl) ?_))
      refine W_then (by simp only [sims, Int.reduceEq, Nat.reduceEqDiff]) ((no hno _).mono ?_)
      rintro _ fr s' ⟨rfl, rfl, z2, z3⟩
      exact ⟨rfl, _, res_tmp (res_tmp res_nil), low, .inr ⟨hno, by rw [z2, z3]; rfl⟩⟩
end
end
end Go.Ev
