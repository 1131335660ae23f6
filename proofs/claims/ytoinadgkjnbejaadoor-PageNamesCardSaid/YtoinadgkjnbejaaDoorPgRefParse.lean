/-
  The document's parser: its pages.
-/
import Derived.Test.YtoinadgkjnbejaaDoorPgRefLines
set_option linter.unusedVariables false
set_option linter.unusedSimpArgs false
namespace Go.Ev
noncomputable section
open Go.Pg
structure RefSt (s : St) (r a d hi lo : Nat) (v : Value) (ls : List Ln) (tit : Ln) (h w : Value) (hd pro : List Ln) (z5 : List Value) (told : Int) (fr : Fr) (t : St) (j : Nat) (ps : List (List Ln)) (g : Value) (H : Nat) : Prop where
  L : Low s.next s t
  rr : Row t r z5
  rd : Rdr t hi a v ls j
  dd : Row t d [strOf tit, h, w, g, .slice none 0 0]
  mh : Mid t (d + 1) lo 1 h (hd.map strOf)
  mw : Mid t (d + 1) lo 1 w (pro.map strOf)
  gg : Grows t lo H g ps
  gb : ∀ b k, g = sl b k → b < t.next
  le : lo ≤ t.next
  f2 : fr.get 2 = some (ptr r 0)
  f6 : fr.get 6 = some (ptr a 0)
  f7 : fr.get 7 = some (ptr d 0)
  f8 : fr.get 8 = some (.int .i64 told)
section
variable {E : Env} {f : FuncId} {s t u : St} {r a d hi lo : Nat} {v h w : Value} {ls hd pro : List Ln} {tit : Ln} {z5 : List Value} {told : Int} {l : Ln}
theorem Mid.keep {lo' hi' : Nat} {x : Value} {xs : List Value} (hm : Mid s lo' hi' 1 x xs) (k : ∀ c, lo' ≤ c → c < hi' → t.get c = s.get c) : Mid t lo' hi' 1 x xs := by
  obtain ⟨m1, m2⟩ := hm
  refine ⟨?_, m2⟩
  cases m1 with
  | nil => exact .nil
  | mk hb hg hl hc =>
    have := m2 _ _ _ rfl
    exact .mk hb (by rw [k _ this hb]; exact hg) hl hc
theorem RefSt.go {fr fr' : Fr} {j j' : Nat} {ps : List (List Ln)} {g : Value} {H : Nat} (R : RefSt s r a d hi lo v ls tit h w hd pro z5 told fr t j ps g H) (ho : s.next ≤ r ∧ r < a ∧ a < d ∧ d < lo) (B : But a t u) (Rd : Rdr u hi a v ls j') (k2 : fr'.get 2 = some (ptr r 0)) (k6 : fr'.get 6 = some (ptr a 0)) (k7 : fr'.get 7 = some (ptr d 0)) (k8 : fr'.get 8 = some (.int .i64 told)) : RefSt s r a d hi lo v ls tit h w hd pro z5 told fr' u j' ps g H := by
  have hle := R.le
  have hL := R.L.2.1
  have halt := R.rd.lt
  exact { L := R.L.trans (But.low B (by omega) (by omega)), rr := R.rr.but B (by omega) (by omega), rd := Rd, dd := R.dd.but B (by omega) (by omega), mh := R.mh.but B hle (.inl (by omega)), mw := R.mw.but B hle (.inl (by omega)), gg := R.gg.two (But.two (d := d) B) (by omega) (by omega),
          gb := fun b k e => Nat.lt_of_lt_of_le (R.gb b k e) B.1, le := Nat.le_trans hle B.1, f2 := k2, f6 := k6, f7 := k7, f8 := k8 }
set_option maxHeartbeats 8000000 in
theorem pages_loop (hC : Codes E) (ho : s.next ≤ r ∧ r < a ∧ a < d ∧ d < lo) (hz5 : z5.length = 5) {rest0 : List Ln} {Q : Ex → Fr → St → Prop}
    (hret : ∀ fr' t', (isExit .ret = false ∧ ∃ m, optL (oneRes fr' t') [.cell 2 true 5, .tmp 3] = some m ∧ ParsePost s l (tupled m) t') → Q .ret fr' t')
    (hbad : pagesR 0 rest0 = none → docR l = none)
    (hq0 : docR l = none → ∀ fr t, Low s.next s t → Row t r z5 → fr.get 2 = some (ptr r 0) → fr.get 9 = some (.bool false) → Q (.exit 0) fr t)
    (hq1 : ∀ fr t j ps g H, RefSt s r a d hi lo v ls tit h w hd pro z5 told fr t j ps g H → fr.get 9 = some (.bool true) → pagesR 0 rest0 = some (ps, ls.drop j) → Q (.exit 0) fr t) :
    ∀ (m : Nat) (fr : Fr) (t : St), ((∃ j ps g H, m = ls.length + 1 - j ∧ RefSt s r a d hi lo v ls tit h w hd pro z5 told fr t j ps g H ∧ fr.get 9 = some (.bool true) ∧ ps.length ≤ j ∧ pagesR 0 rest0 = (pagesR ps.length (ls.drop j)).map (fun y => (ps ++ y.1, y.2))) ∨ (m = 0 ∧ docR l = none ∧ Low s.next s t ∧ Row t r z5 ∧ fr.get 2 = some (ptr r 0) ∧ fr.get 9 = some (.bool false))) → W E (.loop Code.tithingref14_Parse_l0) fr t Q := by
  refine W_inv _ ?_
  rintro m fr t (⟨j, ps, g, H, rfl, R, k9, hpj, hpg⟩ | ⟨rfl, hn, L, rr, k2, k9⟩)
  case inr =>
    unfold Code.tithingref14_Parse_l0
    exact W_seq (W_seq (W_region (by simp only [simq, Int.reduceEq, Nat.reduceEqDiff, k9]; rfl) (W_else (by simp only [simq, Int.reduceEq, Nat.reduceEqDiff]) (W_exit (hq0 hn _ _ L rr (by simp only [simq, Int.reduceEq, Nat.reduceEqDiff, k2]) (by simp only [simq, Int.reduceEq, Nat.reduceEqDiff, k9]))))))
  unfold Code.tithingref14_Parse_l0
  have k2 := R.f2
  have k6 := R.f6
  have k7 := R.f7
  have k8 := R.f8
  have hjl := R.rd.kle
  have hfew := R.rd.few
  have halt := R.rd.lt
  have hage := R.rd.ge
  have hle := R.le
  have hL := R.L.2.1
  refine W_seq (W_seq (W_region (by simp only [simq, Int.reduceEq, Nat.reduceEqDiff, k9]; rfl) (W_then (by simp only [simq, Int.reduceEq, Nat.reduceEqDiff]) (W_skip ?_))))
  refine W_block (W_seq (W_opsM (Wo_run (by simp only [simq, Int.reduceEq, Nat.reduceEqDiff, k6]; rfl) (Wo_call hC._tithing_tithingref14_reader_next.prim (args := [ptr a 0]) (by simp only [simq, Int.reduceEq, Nat.reduceEqDiff]; try rfl) ((next_run hC hC._tithing_tithingref14_reader_next R.rd).mono ?_)))))
  rintro _ _ ⟨hs, rfl⟩
  rw [hs]; clear hs
  refine Wo_all (by simp only [simq, Int.reduceEq, Nat.reduceEqDiff, nth0, nth1, nth2]; rfl) ?_
  show W E _ _ _ _
  have cell1 : t.cell ⟨a, 1, none⟩ = some (.int .i64 (j : Nat)) := R.rd.row.cell 1
  obtain ⟨vs, hvs1, hvs2, hvs3⟩ := R.gg.ok
  obtain ⟨gp, gn, gc, hg, hgn⟩ := hvs1.sl.parts
  have hgn' : gn = ps.length := by omega
  subst hgn'
  have hspot : ∀ q, gp = some q → q.spot = none := by
    have := hvs1.sl
    rw [hg] at this
    exact this.spot
  have w3 : wr .i64 (((ps.length : Nat) : Int) + 1) = ((ps.length + 1 : Nat) : Int) := by rw [wr_i64 (by omega) (by omega)]; omega
  by_cases hlt : j < ls.length
  case neg =>
    have e0 : ls.drop j = [] := List.drop_eq_nil_of_le (by omega)
    have hn : docR l = none := hbad (by rw [hpg, e0, pagesR]; rfl)
    rw [nx_none hlt]
    have w1 : wr .i64 ((j : Int) + 1) = ((j + 1 : Nat) : Int) := by rw [wr_i64 (by omega) (by omega)]; omega
    obtain ⟨s1, p1, R1, n1, f1⟩ := R.rd.row.put (o := 1) (vs := [.int .i64 ((j + 1 : Nat) : Int)]) (by simp)
    have B1 : But a t s1 := but_put n1 f1
    have Dd1 := R.dd.but B1 (by omega) (by omega)
    have L1 : Low s.next s s1 := R.L.trans (But.low B1 (by omega) (by omega))
    have rr1 := R.rr.but B1 (by omega) (by omega)
    have c3 : s1.cell ⟨d, 3, none⟩ = some g := Dd1.cell 3
    rw [hg] at c3
    refine W_seq (W_region (by simp only [simq, Int.reduceEq, Nat.reduceEqDiff, k6, cell1, nilOk_ptr, w1, p1]; rfl) ?_)
    have c9 : decide (((9 : Nat) : Int) = 8) = false := by decide
    refine W_seq (W_seq (W_region (by simp only [simq, Int.reduceEq, Nat.reduceEqDiff, c9]; rfl) (W_else (by simp only [simq, Int.reduceEq, Nat.reduceEqDiff]) (W_skip ?_))))
    refine W_seq (W_seq (W_ops (Wo_run (by simp only [simq, Int.reduceEq, Nat.reduceEqDiff, k7, c3, Int.ofNat_eq_natCast, w3]; rfl) (Wo_callA hC.tithingref14_number.prim (args := [strOf []]) (by simp only [simq, Int.reduceEq, Nat.reduceEqDiff]; try rfl) ((number_run hC.tithingref14_number []).mono ?_)))))
    rintro _ _ ⟨hs, rfl⟩
    rw [hs]; clear hs
    refine ⟨again_load1 (by simp only [simq, Int.reduceEq, Nat.reduceEqDiff]) c3 (by simp only [simq, Int.reduceEq, Nat.reduceEqDiff]) (same_slice hspot) again_nil, ?_⟩
    have dn : decide (numZ [] = ((ps.length + 1 : Nat) : Int)) = false := by
      have : numZ [] = -1 := rfl
      rw [this]; simp; omega
    refine Wo_all (by simp only [simq, Int.reduceEq, Nat.reduceEqDiff, dn]; rfl) ?_
    exact W_then (by simp only [simq, Int.reduceEq, Nat.reduceEqDiff]) (refFail 78 (by decide) (by decide) L1 ho.1 rr1 hz5 (by simp only [simq, Int.reduceEq, Nat.reduceEqDiff, k2]) hn hret)
  have hx := nx_some hlt
  have e0 : ls.drop j = ls[j] :: ls.drop (j + 1) := List.drop_eq_getElem_cons hlt
  rw [hx]
  simp only
  generalize hXX : ls[j] = X at *
  rw [e0, pagesR_cons] at hpg
  obtain ⟨s1, p1, Rd1, B1, n1, w1⟩ := R.rd.step hlt
  have Dd1 := R.dd.but B1 (by omega) (by omega)
  have c3 : s1.cell ⟨d, 3, none⟩ = some g := Dd1.cell 3
  have hg0 := hg
  rw [hg] at c3
  refine W_seq (W_region (by simp only [simq, Int.reduceEq, Nat.reduceEqDiff, k6, cell1, nilOk_ptr, w1, p1]; rfl) ?_)
  by_cases z8 : (kd X).1 = 8
  · have d8 : decide ((((kd X).1 : Nat) : Int) = 8) = true := by simp; omega
    rw [if_pos z8] at hpg
    refine W_seq (W_seq (W_region (by simp only [simq, Int.reduceEq, Nat.reduceEqDiff, d8]; rfl) (W_then (by simp only [simq, Int.reduceEq, Nat.reduceEqDiff]) (W_exit ?_))))
    refine hq1 _ _ (j + 1) ps g H (R.go ho B1 Rd1 (by simp only [simq, Int.reduceEq, Nat.reduceEqDiff, k2]) (by simp only [simq, Int.reduceEq, Nat.reduceEqDiff, k6]) (by simp only [simq, Int.reduceEq, Nat.reduceEqDiff, k7]) (by simp only [simq, Int.reduceEq, Nat.reduceEqDiff, k8])) (by simp only [simq, Int.reduceEq, Nat.reduceEqDiff, k9]) ?_
    rw [hpg]; simp
  have d8 : decide ((((kd X).1 : Nat) : Int) = 8) = false := by simp; omega
  rw [if_neg z8] at hpg
  refine W_seq (W_seq (W_region (by simp only [simq, Int.reduceEq, Nat.reduceEqDiff, d8]; rfl) (W_else (by simp only [simq, Int.reduceEq, Nat.reduceEqDiff]) (W_skip ?_))))
  refine W_seq (W_seq (W_ops (Wo_run (by simp only [simq, Int.reduceEq, Nat.reduceEqDiff, k7, c3, Int.ofNat_eq_natCast, w3]; rfl) (Wo_callA hC.tithingref14_number.prim (args := [strOf (kd X).2]) (by simp only [simq, Int.reduceEq, Nat.reduceEqDiff]; try rfl) ((number_run hC.tithingref14_number (kd X).2).mono ?_)))))
  rintro _ _ ⟨hs, rfl⟩
  rw [hs]; clear hs
  refine ⟨again_load1 (by simp only [simq, Int.reduceEq, Nat.reduceEqDiff]) c3 (by simp only [simq, Int.reduceEq, Nat.reduceEqDiff]) (same_slice hspot) again_nil, ?_⟩
  have L1 : Low s.next s s1 := R.L.trans (But.low B1 (by omega) (by omega))
  have rr1 := R.rr.but B1 (by omega) (by omega)
  by_cases hnum : Pg.num (kd X).2 = some (ps.length + 1)
  case neg =>
    have dn : decide (numZ (kd X).2 = ((ps.length + 1 : Nat) : Int)) = false := by
      rw [decide_eq_false_iff_not]
      intro e
      unfold numZ at e
      cases hz : Pg.num (kd X).2 with
      | none => rw [hz] at e; simp only at e; omega
      | some q =>
        rw [hz] at e hnum
        simp only at e
        exact hnum (by congr 1; omega)
    rw [if_neg hnum] at hpg
    have hn : docR l = none := hbad (by rw [hpg]; rfl)
    refine Wo_all (by simp only [simq, Int.reduceEq, Nat.reduceEqDiff, dn]; rfl) ?_
    exact W_then (by simp only [simq, Int.reduceEq, Nat.reduceEqDiff]) (refFail 78 (by decide) (by decide) L1 ho.1 rr1 hz5 (by simp only [simq, Int.reduceEq, Nat.reduceEqDiff, k2]) hn hret)
  have dn : decide (numZ (kd X).2 = ((ps.length + 1 : Nat) : Int)) = true := by
    unfold numZ
    rw [hnum]; simp
  rw [if_pos hnum] at hpg
  refine Wo_all (by simp only [simq, Int.reduceEq, Nat.reduceEqDiff, dn]; rfl) ?_
  refine W_else (by simp only [simq, Int.reduceEq, Nat.reduceEqDiff]) (W_skip ?_)
  show W E _ _ _ _
  refine W_seq (W_region (by simp only [simq, Int.reduceEq, Nat.reduceEqDiff]; rfl) ?_)
  refine W_gen (T := [(2, ptr r 0), (6, ptr a 0), (7, ptr d 0), (8, .int .i64 told)]) (all_cons (by simp only [simq, Int.reduceEq, Nat.reduceEqDiff, k2]) (all_cons (by simp only [simq, Int.reduceEq, Nat.reduceEqDiff, k6]) (all_cons (by simp only [simq, Int.reduceEq, Nat.reduceEqDiff, k7]) (all_cons (by simp only [simq, Int.reduceEq, Nat.reduceEqDiff, k8]) all_nil)))) fun fr2 g2 => ?_
  have q2 := g2 _ (.head _)
  have q6 := g2 _ (.tail _ (.head _))
  have q7 := g2 _ (.tail _ (.tail _ (.head _)))
  have q8 := g2 _ (.tail _ (.tail _ (.tail _ (.head _))))
  simp only at q2 q6 q7 q8
  clear g2
  have R1 := R.go (fr' := fr2) ho B1 Rd1 q2 q6 q7 q8
  refine W_seq (W_opsM (Wo_run (by simp only [simq, Int.reduceEq, Nat.reduceEqDiff, q6]; rfl) (Wo_call hC._tithing_tithingref14_reader_lines.prim (args := [ptr a 0]) (by simp only [simq, Int.reduceEq, Nat.reduceEqDiff]; try rfl) ((readLines_run hC hC._tithing_tithingref14_reader_lines Rd1).mono ?_))))
  rintro r9 s2 ⟨B2, hnone, hsome⟩
  have hread : ∃ (p9 : Option Addr) (n9 c9 : Nat) (ok : Bool) (o : List Ln), r9 = .tuple ⟨[.slice p9 n9 c9, .bool ok]⟩ ∧ Mid s2 s1.next s2.next 1 (.slice p9 n9 c9) (o.map strOf) ∧ ((ok = false ∧ docR l = none) ∨ (ok = true ∧ ∃ j', Rdr s2 hi a v ls j' ∧ o.length ≤ ls.length ∧ j < j' ∧ pagesR 0 rest0 = (pagesR (ps.length + 1) (ls.drop j')).map (fun y => ((ps ++ [o]) ++ y.1, y.2)))) := by
    cases hb : bodyR false (ls.drop (j + 1)) with
    | none =>
      rw [hb] at hpg
      exact ⟨none, 0, 0, false, [], hnone hb, Mid.nil _ _ _ _, .inl ⟨rfl, hbad (by rw [hpg]; rfl)⟩⟩
    | some x =>
      obtain ⟨w9, j', hr, gr, Rd2, hj⟩ := hsome x hb
      obtain ⟨p9, n9, c9, rfl, hn9⟩ := gr.sl.parts
      have hsuf := bodyR_suf _ _ x.1 x.2 hb
      have hlen := congrArg List.length hsuf
      rw [List.length_append, ← hj, List.length_drop, List.length_drop] at hlen
      have hj' := Rd2.kle
      refine ⟨p9, n9, c9, true, x.1, hr, gr.mid, .inr ⟨rfl, j', Rd2, by omega, by omega, ?_⟩⟩
      rw [hpg, hb, Option.bind_some, Option.map_map, hj]
      congr 1
      funext z
      simp
  obtain ⟨p9, n9, c9, ok, o, rfl, M9, hcase⟩ := hread
  refine Wo_all (by simp only [simq, Int.reduceEq, Nat.reduceEqDiff, nth0, nth1]; rfl) ?_
  show W E _ _ _ _
  have R1le := R1.le
  have hB2 := B2.1
  have Dd2 := R1.dd.but B2 (by omega) (by omega)
  have rr2 := R1.rr.but B2 (by omega) (by omega)
  have gg2 := R1.gg.two (But.two (d := d) B2) (by omega) (by omega)
  have mh2 := R1.mh.but B2 R1le (.inl (by omega))
  have mw2 := R1.mw.but B2 R1le (.inl (by omega))
  have c3' : s2.cell ⟨d, 3, none⟩ = some g := Dd2.cell 3
  refine W_ops (Wo_run (l := [_, _, _]) (by simp only [simq, Int.reduceEq, Nat.reduceEqDiff, q7, c3']; rfl) ?_)
  refine Wo_buildSlice (size := 1) (lo := s2.next) (n := 1) (cs := [.slice p9 n9 c9]) (by simp only [simq, Int.reduceEq, Nat.reduceEqDiff]; rfl) rfl (Nat.le_add_right _ _) (by rw [next_skip]; omega) (by decide) ?_
  rintro s3 ⟨S3, -⟩ l3 hs3
  have L3 : Low s2.next s2 s3 := ((Low.self s2).skip 7).trans l3
  have hL3 := L3.2.1
  obtain ⟨g', s4, s5, e4, p5, Row5, G5, n5, gb5, f5, x5, y5, z5'⟩ := (gg2.two (L3.two (a := a) (d := d)) (by omega) (by omega)).put (o := 3) (T := 24) (bytes := 24) (l := o) (L := s1.next) (Dd2.low L3 (by omega)) (by omega) (by omega) (by simp) ((M9.low L3 (Nat.le_refl _)).wide hL3) (by omega) (fun b k e => R1.gb b k e) S3.feed (by simp [room]; omega)
  refine Wo_all (by simp only [simq, Int.reduceEq, Nat.reduceEqDiff, q7, e4, p5, x5, y5, z5']; rfl) ?_
  have keep : ∀ c, c < lo → c ≠ d → s5.get c = s2.get c := fun c hc hcd => (f5 c hc hcd).trans (L3.2.2 c (by omega))
  have L5 : Low s.next s s5 := by
    have h1 := R1.L
    have h2 := R1.L.2.1
    refine ⟨Nat.le_refl _, by omega, fun c hc => ?_⟩
    rw [keep c (by omega) (by omega), B2.2 c (by omega) (by omega)]
    exact h1.2.2 c hc
  have rr5 : Row s5 r z5 := by
    obtain ⟨es, hr⟩ := rr2
    exact ⟨es, (keep r (by omega) (by omega)).trans hr⟩
  rcases hcase with ⟨rfl, hn⟩ | ⟨rfl, j', Rd2, ho', hjj, hpg'⟩
  · exact ⟨0, by omega, .inr ⟨rfl, hn, L5, rr5, by simp only [simq, Int.reduceEq, Nat.reduceEqDiff, q2], by simp only [simq, Int.reduceEq, Nat.reduceEqDiff]⟩⟩
  · have hj' := Rd2.kle
    refine ⟨ls.length + 1 - j', by omega, .inl ⟨j', ps ++ [o], g', s3.next, rfl, ?_, by simp only [simq, Int.reduceEq, Nat.reduceEqDiff], by simp; omega, by rw [List.length_append]; exact hpg'⟩⟩
    exact { L := L5, rr := rr5,
            rd := ⟨by obtain ⟨es, hr⟩ := Rd2.row; exact ⟨es, (keep a (by omega) (by omega)).trans hr⟩, Rd2.sl.sub fun c hc => keep c (by omega) (by omega), Rd2.few, Rd2.sh, Rd2.ge, by have := Rd2.lt; omega, Rd2.kle⟩,
            dd := Row5, mh := mh2.keep fun c h1 h2 => keep c h2 (by omega), mw := mw2.keep fun c h1 h2 => keep c h2 (by omega), gg := G5, gb := gb5, le := by omega,
            f2 := by simp only [simq, Int.reduceEq, Nat.reduceEqDiff, q2], f6 := by simp only [simq, Int.reduceEq, Nat.reduceEqDiff, q6], f7 := by simp only [simq, Int.reduceEq, Nat.reduceEqDiff, q7], f8 := by simp only [simq, Int.reduceEq, Nat.reduceEqDiff, q8] }
end
end
end Go.Ev
