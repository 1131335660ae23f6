/-
  The document's parser.
-/
import Derived.Test.YtoinadgkjnbejaaDoorPgRefParse
set_option linter.unusedVariables false
set_option linter.unusedSimpArgs false
namespace Go.Ev
noncomputable section
open Go.Pg
def giveOps : CCode := (.many 0 ([⟨(some 90), .mov (.t 9), none, 0, []⟩,
      ⟨(some 91), .un .not (.t 90), none, 1, []⟩,
      ⟨(some 92), .mov (.t 91), none, 2, []⟩,
      ⟨(some 93), .mov (.t 8), (some ((some 92), false)), 3, []⟩,
      ⟨(some 94), .bin .geq (.t 93) (.c (.int .i64 0)), (some ((some 92), false)), 4, []⟩,
      ⟨(some 95), .mov (.t 94), (some ((some 92), false)), 5, []⟩,
      ⟨(some 96), .mov (.t 8), (some ((some 95), true)), 6, []⟩,
      ⟨(some 97), .faddr 3 (.t 7), (some ((some 95), true)), 7, []⟩,
      ⟨(some 98), .load1 (.t 97), (some ((some 95), true)), 8, []⟩,
      ⟨(some 99), .lenV (.t 98), (some ((some 95), true)), 9, []⟩,
      ⟨(some 100), .bin .neq (.t 96) (.t 99), (some ((some 95), true)), 10, []⟩,
      ⟨(some 101), .pick (.t 95) (.t 100) (.c (.bool false)), (some ((some 92), false)), 11, []⟩,
      ⟨(some 102), .pick (.t 92) (.c (.bool true)) (.t 101), none, 12, []⟩,
      ⟨(some 103), .mov (.t 102), none, 13, []⟩,
      ⟨(some 104), .mov (.t 6), (some ((some 103), false)), 14, []⟩] ++
     (⟨(some 105), .callF 31 [(.t 104), (.t 7)], (some ((some 103), false)), 15, []⟩ ::
     ([⟨(some 106), .un .not (.t 105), (some ((some 103), false)), 16, []⟩,
      ⟨(some 107), .pick (.t 103) (.c (.bool true)) (.t 106), none, 17, []⟩]))))
section
variable {E : Env} {f : FuncId} {s t u : St}
set_option maxHeartbeats 8000000 in
theorem refParse_run (hC : Codes E) (hf : Has E f Code.tithingref14_Parse) {l : Ln} (hl : l.length ≤ 100000) : Cv E f [strOf l] s (ParsePost s l) := by
  refine Cv_of hf.code ?_
  have h0 : (Tr.ofList (.e : Fr) 0 [strOf l]).get 0 = some (strOf l) := rfl
  generalize (Tr.ofList (.e : Fr) 0 [strOf l]) = fr0 at h0
  unfold Code.tithingref14_Parse
  refine W_seq (W_ops ?_)
  refine Wo_alloc (lo := s.next) (s0 := s) ((Low.self s).skip 2) (Nat.le_add_right _ _) (by rw [next_skip]; omega) fun s1 B1 n1 f1 => Wo_all (by simp only [simq, Int.reduceEq, Nat.reduceEqDiff]; rfl) ?_
  show W E _ _ _ _
  rw [Nat.add_zero] at B1
  rw [next_skip] at n1
  have RR1 := B1.own
  have LL1 := B1.low
  refine W_seq (W_opsM (Wo_run (by simp only [simq, Int.reduceEq, Nat.reduceEqDiff, h0]; rfl) (Wo_call hC.tithingref14_Lines.prim (args := [strOf l]) (by simp only [simq, Int.reduceEq, Nat.reduceEqDiff]; try rfl) ((Lines_run hC.tithingref14_Lines hl).mono ?_))))
  rintro _ s2 ⟨v, rfl, l2, g2⟩
  refine Wo_all (by simp only [simq, Int.reduceEq, Nat.reduceEqDiff, nth0, nth1]; rfl) ?_
  show W E _ _ _ _
  have L2 : Low s.next s s2 := LL1.trans (l2.weak LL1.2.1)
  have RR2 := RR1.low l2 (by omega)
  have T2 : Texts s2 s2.next v (lns l).1 := g2.sl
  have hls := lns_len l
  have hsh := lns_sh l
  have hdoc : docR l = if 20000 < l.length ∨ (lns l).2 ≠ [] then none else parseR (lns l).1 := rfl
  generalize hLS : (lns l).1 = LS at *
  generalize (lns l).2 = tail at *
  obtain ⟨p, n, c, rfl, hn⟩ := T2.parts
  rw [List.length_map, Nat.mul_one] at hn
  subst hn
  refine W_gen (T := [(0, strOf l), (2, ptr s.next 0), (4, .slice p LS.length c), (5, .bool (decide (tail = [])))]) (all_cons (by simp only [simq, Int.reduceEq, Nat.reduceEqDiff, h0]) (all_cons (by simp only [simq, Int.reduceEq, Nat.reduceEqDiff]) (all_cons (by simp only [simq, Int.reduceEq, Nat.reduceEqDiff]) (all_cons (by simp only [simq, Int.reduceEq, Nat.reduceEqDiff]) all_nil)))) fun fr2 g => ?_
  have k0 := g _ (.head _)
  have k2 := g _ (.tail _ (.head _))
  have k4 := g _ (.tail _ (.tail _ (.head _)))
  have k5 := g _ (.tail _ (.tail _ (.tail _ (.head _))))
  simp only at k0 k2 k4 k5
  clear g h0 fr0
  have hn1 := n1
  have hL2 := L2.2.1
  have hl2 := l2.2.1
  by_cases a1 : 20000 < l.length
  · have hn : docR l = none := by rw [hdoc, if_pos (.inl a1)]
    have d1 : decide ((20000 : Int) < ((l.length : Nat) : Int)) = true := by simp; omega
    refine W_seq (W_seq (W_region (by simp only [simq, Int.reduceEq, Nat.reduceEqDiff, k0, lenL_eq, Int.ofNat_eq_natCast, d1]; rfl) (W_then (by simp only [simq, Int.reduceEq, Nat.reduceEqDiff]) ?_)))
    exact refFail 37 (by decide) (by decide) L2 (Nat.le_refl _) RR2 rfl (by simp only [simq, Int.reduceEq, Nat.reduceEqDiff, k2]) hn (fun _ _ h => h)
  have d1 : decide ((20000 : Int) < ((l.length : Nat) : Int)) = false := by simp; omega
  by_cases a2 : tail = []
  case neg =>
    have hn : docR l = none := by rw [hdoc, if_pos (.inr a2)]
    have d2 : decide (tail = []) = false := decide_eq_false a2
    refine W_seq (W_seq (W_region (by simp only [simq, Int.reduceEq, Nat.reduceEqDiff, k0, k5, lenL_eq, Int.ofNat_eq_natCast, d1, d2]; rfl) (W_then (by simp only [simq, Int.reduceEq, Nat.reduceEqDiff]) ?_)))
    exact refFail 37 (by decide) (by decide) L2 (Nat.le_refl _) RR2 rfl (by simp only [simq, Int.reduceEq, Nat.reduceEqDiff, k2]) hn (fun _ _ h => h)
  have d2 : decide (tail = []) = true := decide_eq_true a2
  rw [if_neg (by rw [not_or]; exact ⟨a1, fun h => h a2⟩)] at hdoc
  cases LS with
  | nil =>
    have hn : docR l = none := hdoc
    have d3 : decide (((([] : List Ln).length : Nat) : Int) = 0) = true := by decide
    refine W_seq (W_seq (W_region (by simp only [simq, Int.reduceEq, Nat.reduceEqDiff, k0, k4, k5, lenL_eq, Int.ofNat_eq_natCast, d1, d2, d3]; rfl) (W_then (by simp only [simq, Int.reduceEq, Nat.reduceEqDiff]) ?_)))
    exact refFail 37 (by decide) (by decide) L2 (Nat.le_refl _) RR2 rfl (by simp only [simq, Int.reduceEq, Nat.reduceEqDiff, k2]) hn (fun _ _ h => h)
  | cons X rest =>
  have d3 : decide ((((X :: rest).length : Nat) : Int) = 0) = false := by simp; omega
  obtain ⟨q, rfl, hcell⟩ := T2.cell (i := 0) (by simp)
  have hcell : s2.cell (q.add 0) = some (strOf X) := hcell
  have hz : asNat (.int .i64 0) = some 0 := rfl
  have hb : Nat.blt 0 (X :: rest).length = true := rfl
  by_cases a4 : X = wFirst
  case neg =>
    have hn : docR l = none := by rw [hdoc, parseR, if_neg a4]
    have d4 : decide (X = wFirst) = false := decide_eq_false a4
    unfold wFirst at d4
    refine W_seq (W_seq (W_region (by simp only [simq, Int.reduceEq, Nat.reduceEqDiff, k0, k4, k5, lenL_eq, Int.ofNat_eq_natCast, d1, d2, d3, hz, hb, hcell, d4]; rfl) (W_then (by simp only [simq, Int.reduceEq, Nat.reduceEqDiff]) ?_)))
    exact refFail 37 (by decide) (by decide) L2 (Nat.le_refl _) RR2 rfl (by simp only [simq, Int.reduceEq, Nat.reduceEqDiff, k2]) hn (fun _ _ h => h)
  have d4 : decide (X = wFirst) = true := decide_eq_true a4
  unfold wFirst at d4
  rw [parseR, if_pos a4] at hdoc
  refine W_seq (W_seq (W_region (by simp only [simq, Int.reduceEq, Nat.reduceEqDiff, k0, k4, k5, lenL_eq, Int.ofNat_eq_natCast, d1, d2, d3, hz, hb, hcell, d4]; rfl) (W_else (by simp only [simq, Int.reduceEq, Nat.reduceEqDiff]) (W_skip ?_))))
  refine W_seq (W_ops (Wo_run (l := [_]) (by simp only [simq, Int.reduceEq, Nat.reduceEqDiff, k4]; rfl) ?_))
  refine Wo_build (l := [.slice (some q) (X :: rest).length c, .int .i64 1]) (by simp only [simq, Int.reduceEq, Nat.reduceEqDiff]; rfl) ?_
  refine Wo_box (lo := s2.next) (s0 := s2) (z := [.slice (some q) (X :: rest).length c, .int .i64 1]) (by simp only [simq, Int.reduceEq, Nat.reduceEqDiff]; rfl) rfl rfl ((Low.self s2).skip 4) (Nat.le_add_right _ _) (by rw [next_skip]; omega) fun s3 B3 n3 f3 => Wo_all (by simp only [simq, Int.reduceEq, Nat.reduceEqDiff]; rfl) ?_
  show W E _ _ _ _
  rw [next_skip] at n3
  have Rd3 : Rdr s3 s2.next (s2.next + 2) (.slice (some q) (X :: rest).length c) (X :: rest) 1 := ⟨B3.own, T2.low B3.low (Nat.le_refl _), by omega, fun x hx => by have := hsh x hx; omega, by omega, by omega, by simp⟩
  refine W_seq (W_ops ?_)
  refine Wo_alloc (lo := s3.next) (s0 := s3) ((Low.self s3).skip 1) (Nat.le_add_right _ _) (by rw [next_skip]; omega) fun s4 B4 n4 f4 => Wo_nil ?_
  show W E _ _ _ _
  rw [Nat.add_zero] at B4
  rw [next_skip] at n4
  have D4 : Row s4 s3.next [strOf [], .slice none 0 0, .slice none 0 0, .slice none 0 0, .slice none 0 0] := B4.own
  have Rd4 := Rd3.low B4.low (by omega)
  have L4 : Low s.next s s4 := (L2.trans (B3.low.weak hL2)).trans (B4.low.weak (by omega))
  have RR4 := (RR2.low B3.low (by omega)).low B4.low (by omega)
  refine W_gen (T := [(2, ptr s.next 0), (6, ptr (s2.next + 2) 0), (7, ptr s3.next 0)]) (all_cons (by simp only [simq, Int.reduceEq, Nat.reduceEqDiff, k2]) (all_cons (by simp only [simq, Int.reduceEq, Nat.reduceEqDiff]) (all_cons (by simp only [simq, Int.reduceEq, Nat.reduceEqDiff]) all_nil))) fun fr4 g => ?_
  clear k0 k2 k4 k5
  have k2 := g _ (.head _)
  have k6 := g _ (.tail _ (.head _))
  have k7 := g _ (.tail _ (.tail _ (.head _)))
  simp only at k2 k6 k7
  clear g
  have hd4 : s3.next < s4.next := by omega
  generalize hdd : s3.next = d at *
  generalize haa : s2.next + 2 = a at *
  have hra : s.next < a := by omega
  have had : a < d := by omega
  have hhi : s2.next ≤ a := by omega
  clear f1 f3 f4 B1 B3 B4 n1 n3 n4 hn1 hcell T2 RR1 RR2 L2 LL1 Rd3
  refine W_seq (W_opsM (Wo_run (by simp only [simq, Int.reduceEq, Nat.reduceEqDiff, k6, k7]; rfl) (Wo_call hC._tithing_tithingref14_reader_header.prim (args := [ptr a 0, ptr d 0]) (by simp only [simq, Int.reduceEq, Nat.reduceEqDiff, k7]; try rfl) ((header_run hC hC._tithing_tithingref14_reader_header Rd4 D4 had hd4).mono ?_))))
  rintro rh s5 ⟨F5, hnone, hsome⟩
  have e1 : (X :: rest).drop 1 = rest := rfl
  rw [e1] at hnone hsome
  have hs4 := L4.2.1
  have hF5 := F5.1
  have L5 : Low s.next s s5 := L4.trans (F5.low (by omega) (by omega) (by omega))
  have RR5 := RR4.two F5 (by omega) (by omega) (by omega)
  cases hh : headR rest none none with
  | none =>
    rw [hh] at hdoc
    have hn : docR l = none := hdoc
    rw [hnone hh]
    refine Wo_all (by simp only [simq, Int.reduceEq, Nat.reduceEqDiff, nth0, nth1]; rfl) ?_
    show W E _ _ _ _
    refine W_seq (W_seq (W_region (by simp only [simq, Int.reduceEq, Nat.reduceEqDiff]; rfl) (W_then (by simp only [simq, Int.reduceEq, Nat.reduceEqDiff]) ?_)))
    exact refFail 48 (by decide) (by decide) L5 (Nat.le_refl _) RR5 rfl (by simp only [simq, Int.reduceEq, Nat.reduceEqDiff, k2]) hn (fun _ _ h => h)
  | some x =>
  rw [hh, Option.bind_some] at hdoc
  obtain ⟨h, j, hr, D5, M5, Rd5, hj⟩ := hsome x hh
  rw [hr]
  refine Wo_all (by simp only [simq, Int.reduceEq, Nat.reduceEqDiff, nth0, nth1]; rfl) ?_
  show W E _ _ _ _
  refine W_seq (W_seq (W_region (by simp only [simq, Int.reduceEq, Nat.reduceEqDiff]; rfl) (W_else (by simp only [simq, Int.reduceEq, Nat.reduceEqDiff]) (W_skip ?_))))
  refine W_gen (T := [(2, ptr s.next 0), (6, ptr a 0), (7, ptr d 0), (8, .int .i64 (toldZ x.1))]) (all_cons (by simp only [simq, Int.reduceEq, Nat.reduceEqDiff, k2]) (all_cons (by simp only [simq, Int.reduceEq, Nat.reduceEqDiff, k6]) (all_cons (by simp only [simq, Int.reduceEq, Nat.reduceEqDiff, k7]) (all_cons (by simp only [simq, Int.reduceEq, Nat.reduceEqDiff]) all_nil)))) fun fr5 g => ?_
  clear k2 k6 k7
  have k2 := g _ (.head _)
  have k6 := g _ (.tail _ (.head _))
  have k7 := g _ (.tail _ (.tail _ (.head _)))
  have k8 := g _ (.tail _ (.tail _ (.tail _ (.head _))))
  simp only at k2 k6 k7 k8
  clear g
  refine W_seq (W_opsM (Wo_run (by simp only [simq, Int.reduceEq, Nat.reduceEqDiff, k6]; rfl) (Wo_call hC._tithing_tithingref14_reader_lines.prim (args := [ptr a 0]) (by simp only [simq, Int.reduceEq, Nat.reduceEqDiff]; try rfl) ((readLines_run hC hC._tithing_tithingref14_reader_lines Rd5).mono ?_))))
  rintro r9 s6 ⟨B6, hnone6, hsome6⟩
  rw [hj] at hnone6 hsome6
  have hread : ∃ (p9 : Option Addr) (n9 c9 : Nat) (ok : Bool) (o : List Ln), r9 = .tuple ⟨[.slice p9 n9 c9, .bool ok]⟩ ∧ Mid s6 s5.next s6.next 1 (.slice p9 n9 c9) (o.map strOf) ∧ ((ok = false ∧ docR l = none) ∨ (ok = true ∧ ∃ j' r2, Rdr s6 s2.next a (.slice (some q) (X :: rest).length c) (X :: rest) j' ∧ bodyR false x.2.2.2 = some (o, r2) ∧ (X :: rest).drop j' = r2)) := by
    cases hb : bodyR false x.2.2.2 with
    | none =>
      rw [hb] at hdoc
      exact ⟨none, 0, 0, false, [], hnone6 hb, Mid.nil _ _ _ _, .inl ⟨rfl, hdoc⟩⟩
    | some y =>
      obtain ⟨w9, j', hr, gr, Rd6, hj6⟩ := hsome6 y hb
      obtain ⟨p9, n9, c9, rfl, hn9⟩ := gr.sl.parts
      exact ⟨p9, n9, c9, true, y.1, hr, gr.mid, .inr ⟨rfl, j', y.2, Rd6, rfl, hj6⟩⟩
  obtain ⟨p9, n9, c9, ok, pro, rfl, M9, hcase⟩ := hread
  have hB6 := B6.1
  have D6 := D5.but B6 (by omega) (by omega)
  have L6 : Low s.next s s6 := L5.trans (But.low B6 (by omega) (by omega))
  have RR6 := RR5.but B6 (by omega) (by omega)
  obtain ⟨s7, p7, D7, n7, f7⟩ := D6.put (o := 2) (vs := [.slice p9 n9 c9]) (by simp)
  have B7 : But d s6 s7 := but_put n7 f7
  have hst : storable (.slice p9 n9 c9) = true ∧ vcells (.slice p9 n9 c9) = [.slice p9 n9 c9] ∧ Nat.beq (lenL [Value.slice p9 n9 c9]) 1 = true := ⟨rfl, rfl, rfl⟩
  refine Wo_all (by simp only [simq, Int.reduceEq, Nat.reduceEqDiff, k7, nth0, nth1, hst.1, hst.2.1, hst.2.2, p7]; rfl) ?_
  show W E _ _ _ _
  have L7 : Low s.next s s7 := L6.trans (But.low B7 (by omega) (by omega))
  have RR7 := RR6.but B7 (by omega) (by omega)
  have give : docR l = none → ∀ (fr : Fr) (t : St), Low s.next s t → Row t s.next [strOf [], .slice none 0 0, .slice none 0 0, .slice none 0 0, .slice none 0 0] → fr.get 2 = some (ptr s.next 0) → fr.get 9 = some (.bool false) → W E (.seq (.seq giveOps (.cond (.t 107) (.seq (.region 0 [⟨some 108, .build [.string ⟨⟨[]⟩⟩, .slice none 0 0, .slice none 0 0, .slice none 0 0, .slice none 0 0] [], none, 0, []⟩, ⟨none, .store 5 (.t 2) (.t 108), none, 1, []⟩, ⟨some 3, .mov (.c (.int .i64 3)), none, 2, []⟩]) .ret) .skip)) (.seq (.region 0 [⟨some 109, .loadN 5 (.t 7), none, 0, []⟩, ⟨none, .store 5 (.t 2) (.t 109), none, 1, []⟩, ⟨some 3, .mov (.c (.int .i64 0)), none, 2, []⟩]) .ret)) fr t fun e fr' t' => isExit e = false ∧ ∃ m, optL (oneRes fr' t') [.cell 2 true 5, .tmp 3] = some m ∧ ParsePost s l (tupled m) t' := by
    intro hn fr t L rr k2 k9
    unfold giveOps
    refine W_seq (W_seq (W_opsM (Wo_all (by simp only [simq, Int.reduceEq, Nat.reduceEqDiff, k9]; rfl) (W_then (by simp only [simq, Int.reduceEq, Nat.reduceEqDiff]) ?_))))
    exact refFail 108 (by decide) (by decide) L (Nat.le_refl _) rr rfl (by simp only [simq, Int.reduceEq, Nat.reduceEqDiff, k2]) hn (fun _ _ h => ⟨h.1, h.2⟩)
  rcases hcase with ⟨rfl, hn⟩ | ⟨rfl, j', r2, Rd6, hb, hj6⟩
  · refine W_seq (W_block (pages_loop (s := s) (r := s.next) (a := a) (d := d) (hi := s2.next) (lo := s7.next) (v := .slice (some q) (X :: rest).length c) (h := h) (w := .slice p9 n9 c9) (ls := X :: rest) (hd := x.2.2.1) (pro := pro) (tit := x.2.1.getD []) (z5 := [strOf [], .slice none 0 0, .slice none 0 0, .slice none 0 0, .slice none 0 0]) (told := toldZ x.1) (l := l) hC ⟨Nat.le_refl _, hra, had, by omega⟩ rfl (rest0 := []) (fun _ _ h => h) (fun _ => hn) ?_ ?_ 0 _ _ (.inr ⟨rfl, hn, L7, RR7, by simp only [simq, Int.reduceEq, Nat.reduceEqDiff, k2], by simp only [simq, Int.reduceEq, Nat.reduceEqDiff]⟩)))
    · intro hn fr t L rr k2 k9
      exact give hn fr t L rr k2 k9
    · intro fr t j ps g H R k9 hpg
      rw [pagesR] at hpg; cases hpg
  rw [hb, Option.bind_some] at hdoc
  have hj6' := Rd6.kle
  refine W_seq (W_block (pages_loop (s := s) (r := s.next) (a := a) (d := d) (hi := s2.next) (lo := s7.next) (v := .slice (some q) (X :: rest).length c) (h := h) (w := .slice p9 n9 c9) (ls := X :: rest) (hd := x.2.2.1) (pro := pro) (tit := x.2.1.getD []) (z5 := [strOf [], .slice none 0 0, .slice none 0 0, .slice none 0 0, .slice none 0 0]) (told := toldZ x.1) (l := l) hC ⟨Nat.le_refl _, hra, had, by omega⟩ rfl (rest0 := r2) (fun _ _ h => h) (fun hbad => ?_) ?_ ?_ ((X :: rest).length + 1 - j') _ _ (.inl ⟨j', [], .slice none 0 0, s7.next, rfl, ?_, by simp only [simq, Int.reduceEq, Nat.reduceEqDiff], Nat.zero_le _, ?_⟩)))
  · rw [hdoc, hbad]; rfl
  · intro hn fr t L rr k2 k9
    exact give hn fr t L rr k2 k9
  · intro fr t j ps g H R k9 hpg
    rw [hpg, Option.bind_some] at hdoc
    simp only at hdoc
    show W E _ fr t _
    have q2 := R.f2
    have q6 := R.f6
    have q7 := R.f7
    have q8 := R.f8
    have hle := R.le
    have hRL := R.L.2.1
    obtain ⟨vs, hvs1, hvs2, hvs3⟩ := R.gg.ok
    obtain ⟨gp, gn, gc, hg, hgn⟩ := hvs1.sl.parts
    have hgn' : gn = ps.length := by omega
    subst hgn'
    have c3 : t.cell ⟨d, 3, none⟩ = some g := R.dd.cell 3
    rw [hg] at c3
    by_cases hag : agrees x.1 ps.length = true
    case neg =>
      rw [if_neg hag] at hdoc
      cases hx1 : x.1 with
      | none => rw [hx1] at hag; exact absurd rfl hag
      | some m =>
        rw [hx1] at hag q8
        have hne : m ≠ ps.length := fun e => hag (by unfold agrees; rw [e]; simp)
        have dge : decide ((0 : Int) ≤ toldZ (some m)) = true := by simp [toldZ]
        have dne : decide (toldZ (some m) = ((ps.length : Nat) : Int)) = false := by
          rw [decide_eq_false_iff_not]
          show ¬ ((m : Nat) : Int) = _
          omega
        refine W_seq (W_seq (W_opsM (Wo_all (by simp only [simq, Int.reduceEq, Nat.reduceEqDiff, k9, q7, q8, dge, c3, Int.ofNat_eq_natCast, dne]; rfl) (W_then (by simp only [simq, Int.reduceEq, Nat.reduceEqDiff]) ?_))))
        exact refFail 108 (by decide) (by decide) R.L (Nat.le_refl _) R.rr rfl (by simp only [simq, Int.reduceEq, Nat.reduceEqDiff, q2]) hdoc (fun _ _ h => h)
    rw [if_pos hag] at hdoc
    have hdt : d < t.next := by omega
    have hat := R.rd.lt
    refine W_seq (W_seq (W.mono (Q := fun e fr' t' => e = .normal ∧ fr'.get 107 = some (.bool (!(trailR ((X :: rest).drop j)).isSome)) ∧ fr'.get 2 = some (ptr s.next 0) ∧ fr'.get 7 = some (ptr d 0) ∧ Two a d t t' ∧ ∀ tl, trailR ((X :: rest).drop j) = some tl → ∃ tw, Row t' d [strOf (x.2.1.getD []), h, .slice p9 n9 c9, g, tw] ∧ Mid t' t.next t'.next 1 tw (tl.map strOf)) ?_ ?_))
    · cases hx1 : x.1 with
      | none =>
        rw [hx1] at q8
        have dge : decide ((0 : Int) ≤ toldZ none) = false := by decide
        refine W_opsM (Wo_run (by simp only [simq, Int.reduceEq, Nat.reduceEqDiff, k9, q7, q8, q6, dge]; rfl) (Wo_gt (by simp only [simq, Int.reduceEq, Nat.reduceEqDiff]) (Wo_call hC._tithing_tithingref14_reader_trailer.prim (args := [ptr a 0, ptr d 0]) (by simp only [simq, Int.reduceEq, Nat.reduceEqDiff, q7]; try rfl) ((trailer_run hC hC._tithing_tithingref14_reader_trailer R.rd R.dd had hdt).mono ?_))))
        rintro _ t9 ⟨F9, rfl, hM⟩
        exact Wo_all (by simp only [simq, Int.reduceEq, Nat.reduceEqDiff]; rfl) ⟨rfl, by simp only [simq, Int.reduceEq, Nat.reduceEqDiff], by simp only [simq, Int.reduceEq, Nat.reduceEqDiff, q2], by simp only [simq, Int.reduceEq, Nat.reduceEqDiff, q7], F9, hM⟩
      | some m =>
        rw [hx1] at hag q8
        have hme : m = ps.length := by
          unfold agrees at hag
          simpa using hag
        have dge : decide ((0 : Int) ≤ toldZ (some m)) = true := by simp [toldZ]
        have dne : decide (toldZ (some m) = ((ps.length : Nat) : Int)) = true := by
          rw [decide_eq_true_eq, hme]; rfl
        refine W_opsM (Wo_run (by simp only [simq, Int.reduceEq, Nat.reduceEqDiff, k9, q7, q8, q6, dge, c3, Int.ofNat_eq_natCast, dne]; rfl) (Wo_gt (by simp only [simq, Int.reduceEq, Nat.reduceEqDiff]) (Wo_call hC._tithing_tithingref14_reader_trailer.prim (args := [ptr a 0, ptr d 0]) (by simp only [simq, Int.reduceEq, Nat.reduceEqDiff, q7]; try rfl) ((trailer_run hC hC._tithing_tithingref14_reader_trailer R.rd R.dd had hdt).mono ?_))))
        rintro _ t9 ⟨F9, rfl, hM⟩
        exact Wo_all (by simp only [simq, Int.reduceEq, Nat.reduceEqDiff]; rfl) ⟨rfl, by simp only [simq, Int.reduceEq, Nat.reduceEqDiff], by simp only [simq, Int.reduceEq, Nat.reduceEqDiff, q2], by simp only [simq, Int.reduceEq, Nat.reduceEqDiff, q7], F9, hM⟩
    rintro _ fr9 t9 ⟨rfl, k107, m2, m7, F9, hM⟩
    show W E _ fr9 _ _
    have hF9 := F9.1
    have L9 : Low s.next s t9 := R.L.trans (F9.low (by omega) (by omega) (by omega))
    have RR9 := R.rr.two F9 (by omega) (by omega) (by omega)
    cases htr : trailR ((X :: rest).drop j) with
    | none =>
      rw [htr] at hdoc k107
      have k107 : fr9.get 107 = some (.bool true) := k107
      exact W_then (by simp only [simq, Int.reduceEq, Nat.reduceEqDiff, k107]) (refFail 108 (by decide) (by decide) L9 (Nat.le_refl _) RR9 rfl (by simp only [simq, Int.reduceEq, Nat.reduceEqDiff, m2]) hdoc (fun _ _ h => h))
    | some tl =>
      rw [htr] at hdoc k107
      have k107 : fr9.get 107 = some (.bool false) := k107
      obtain ⟨tw, D9, M9'⟩ := hM tl htr
      refine W_else (by simp only [simq, Int.reduceEq, Nat.reduceEqDiff, k107]) (W_skip ?_)
      show W E _ fr9 _ _
      have row9 : t9.row ⟨d, 0, none⟩ 5 = some [strOf (x.2.1.getD []), h, .slice p9 n9 c9, g, tw] := D9.row rfl
      obtain ⟨t10, p10, R10, n10, f10⟩ := RR9.put (o := 0) (vs := [strOf (x.2.1.getD []), h, .slice p9 n9 c9, g, tw]) (by simp)
      have B10 : But s.next t9 t10 := but_put n10 f10
      have hst9 : storable (.agg ⟨[strOf (x.2.1.getD []), h, .slice p9 n9 c9, g, tw]⟩) = true := rfl
      have hl9 : Nat.beq (lenL [strOf (x.2.1.getD []), h, .slice p9 n9 c9, g, tw]) 5 = true := rfl
      refine W_seq (W_region (by simp only [simq, Int.reduceEq, Nat.reduceEqDiff, m2, m7, row9, hst9, vcells_agg, hl9, p10]; rfl) ?_)
      obtain ⟨z1, z2⟩ := doc_some hdoc
      refine W_ret ⟨rfl, _, res_cell (cs := [strOf (x.2.1.getD []), h, .slice p9 n9 c9, g, tw]) (by simp only [simq, Int.reduceEq, Nat.reduceEqDiff, m2]) (R10.row rfl) (res_tmp res_nil), L9.trans (But.low B10 (Nat.le_refl _) L9.2.1), [strOf (x.2.1.getD []), h, .slice p9 n9 c9, g, tw], ?_, ?_⟩
      · rw [z1]; simp only [simq, Int.reduceEq, Nat.reduceEqDiff, tupled]
      · rw [z2]
        have md : ∀ {w' : Value} {xs : List Ln} {hi' : Nat}, hi' ≤ t.next → Mid t (d + 1) hi' 1 w' (xs.map strOf) → MTexts t10 s.next t10.next w' xs := fun hh hm => MTexts.to (((hm.two F9 (by omega) (by omega) hh).but B10 (by omega) (.inl (by omega)))) (by omega) (by rw [n10]; omega)
        refine ⟨h, .slice p9 n9 c9, g, tw, rfl, md hle R.mh, md hle R.mw, ?_, ?_⟩
        · exact ((R.gg.two F9 (by omega) (by omega)).two (But.two (d := d) B10) (by omega) (by omega)).mlists.to (by omega) (Nat.le_refl _)
        · exact MTexts.to (M9'.but B10 (Nat.le_refl _) (.inl (by omega))) (by omega) (by rw [n10]; exact Nat.le_refl _)
  · have M5' := (M5.but B6 (Nat.le_refl _) (.inl (by omega))).but B7 (by omega) (.inl (by omega))
    have M9' := (M9.but B7 (Nat.le_refl _) (.inl (by omega)))
    exact { L := L7, rr := RR7, rd := Rd6.but B7 (by omega) (by omega), dd := D7, mh := (M5'.wide (by omega)).weak (by omega), mw := (M9'.wide (by omega)).weak (by omega), gg := Grows.nil (Nat.le_refl _), gb := (fun b k e => by cases e), le := Nat.le_refl _, f2 := by simp only [simq, Int.reduceEq, Nat.reduceEqDiff, k2], f6 := by simp only [simq, Int.reduceEq, Nat.reduceEqDiff, k6], f7 := by simp only [simq, Int.reduceEq, Nat.reduceEqDiff, k7], f8 := by simp only [simq, Int.reduceEq, Nat.reduceEqDiff, k8] }
  · rw [hj6]
    simp
end
end
end Go.Ev
