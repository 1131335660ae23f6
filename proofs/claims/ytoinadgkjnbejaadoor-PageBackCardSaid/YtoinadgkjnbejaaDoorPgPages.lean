/-
  The program's parser: its pages.
-/
import Derived.Test.YtoinadgkjnbejaaDoorPgWin
import Derived.Test.YtoinadgkjnbejaaDoorPgRefParse
set_option linter.unusedVariables false
set_option linter.unusedSimpArgs false
namespace Go.Ev
noncomputable section
open Go.Pg
theorem dec_len (n : Nat) : (dec n).length ≤ n + 1 := by
  induction n using Nat.strongRecOn with
  | _ n ih =>
    by_cases h : n < 10
    · rw [dec_one h]; simp
    · rw [dec_step h, List.length_append]
      have := ih (n / 10) (by omega)
      simp
      omega
structure PSt (s : St) (d H lo : Nat) (hp : Option Addr) (hn hc : Nat) (hdr : List Ln) (wp : Option Addr) (wn wc : Nat) (pro : List Ln) (tit : Ln) (t : St) (p : Option Addr) (n c : Nat) (cur : List Ln) (ps : List (List Ln)) (g : Value) : Prop where
  L : Low s.next s t
  row : Row t d [strOf tit, .slice hp hn hc, .slice wp wn wc, g, .slice none 0 0]
  wh : Win t (d + 1) H hp hn hc hdr
  ww : Win t (d + 1) H wp wn wc pro
  wl : Win t (d + 1) H p n c cur
  gg : ∃ vs : List Value, Gr t lo 1 g vs ∧ vs.length = ps.length ∧ ∀ (i : Nat) (x : Value) (q : List Ln), vs[i]? = some x → ps[i]? = some q → Mid t (d + 1) H 1 x (q.map strOf)
  le : lo ≤ t.next
section
variable {E : Env} {f : FuncId} {s t u : St}
set_option maxHeartbeats 8000000 in
theorem prog_pages (hC : Codes E) (P : Prims E) (G : Gl s) {d H lo hn hc wn wc : Nat} {hp wp : Option Addr} {hdr pro : List Ln} {tit told : Ln} {ti co : Nat} {l : Ln} (hd : s.next ≤ d) (hdH : d < H) (hHlo : H ≤ lo) {R0 : List Ln} {Q : Ex → Fr → St → Prop}
    (hbad : pagesP 0 R0 = none → docR l = none)
    (hq0 : docR l = none → ∀ fr t cs, Low s.next s t → Row t d cs → cs.length = 5 → fr.get 2 = some (ptr d 0) → fr.get 3 = some (.bool false) → Q (.exit 3) fr t)
    (hq1 : ∀ fr t p n c cur ps g, PSt s d H lo hp hn hc hdr wp wn wc pro tit t p n c cur ps g → pagesP 0 R0 = some (ps, cur) → cur.length + ps.length ≤ 100000 → (∀ x ∈ cur, x.length ≤ 100000) → fr.get 2 = some (ptr d 0) → fr.get 3 = some (.bool true) → fr.get 4 = some (.slice p n c) → fr.get 7 = some (strOf told) → fr.get 8 = some (.int .i64 (ti : Nat)) → fr.get 9 = some (.int .i64 (co : Nat)) → Q (.exit 3) fr t) :
    ∀ (m : Nat) (fr : Fr) (t : St), ((∃ p n c cur ps g, m = cur.length + 1 ∧ PSt s d H lo hp hn hc hdr wp wn wc pro tit t p n c cur ps g ∧ pagesP 0 R0 = (pagesP ps.length cur).map (fun x => (ps ++ x.1, x.2)) ∧ cur.length + ps.length ≤ 100000 ∧ (∀ x ∈ cur, x.length ≤ 100000) ∧ fr.get 2 = some (ptr d 0) ∧ fr.get 3 = some (.bool true) ∧ fr.get 4 = some (.slice p n c) ∧ fr.get 7 = some (strOf told) ∧ fr.get 8 = some (.int .i64 (ti : Nat)) ∧ fr.get 9 = some (.int .i64 (co : Nat))) ∨ (m = 0 ∧ docR l = none ∧ Low s.next s t ∧ (∃ cs, Row t d cs ∧ cs.length = 5) ∧ fr.get 2 = some (ptr d 0) ∧ fr.get 3 = some (.bool false))) → W E (.loop Code.page_parse_l1) fr t Q := by
  refine W_inv _ ?_
  rintro m fr t (⟨p, n, c, cur, ps, g, rfl, A, hpg, hcnt, hsh, k2, k3, k4, k7, k8, k9⟩ | ⟨rfl, hno, L, ⟨cs, row, hcs⟩, k2, k3⟩)
  case inr =>
    unfold Code.page_parse_l1
    refine W_seq (W_seq (W_ops (Wo_run (by simp only [simq, Int.reduceEq, Nat.reduceEqDiff, k3]; rfl) (Wo_gfA (by simp only [simq, Int.reduceEq, Nat.reduceEqDiff]) (Wo_all (by simp only [simq, Int.reduceEq, Nat.reduceEqDiff]; rfl) ?_)))))
    exact W_else (by simp only [simq, Int.reduceEq, Nat.reduceEqDiff]) (W_exit (hq0 hno _ _ cs L row hcs (by simp only [simq, Int.reduceEq, Nat.reduceEqDiff, k2]) (by simp only [simq, Int.reduceEq, Nat.reduceEqDiff, k3])))
  unfold Code.page_parse_l1
  have hlen := A.wl.len
  subst hlen
  have hcap := A.wl.cap
  have hnc := A.wl.nc
  have hL := A.L.2.1
  have hle := A.le
  obtain ⟨vs, g1, g2, g3⟩ := A.gg
  obtain ⟨gp, gn, gc, hg, hgn⟩ := g1.sl.parts
  have hgn' : gn = ps.length := by omega
  subst hgn'
  have c3 : t.cell ⟨d, 3, none⟩ = some g := A.row.cell 3
  cases cur with
  | nil =>
    rw [pagesP] at hpg
    have d1 : decide ((0 : Int) < ((([] : List Ln).length : Nat) : Int)) = false := by decide
    refine W_seq (W_seq (W_ops (Wo_run (by simp only [simq, Int.reduceEq, Nat.reduceEqDiff, k3, k4, Int.ofNat_eq_natCast, d1]; rfl) (Wo_gfA (by simp only [simq, Int.reduceEq, Nat.reduceEqDiff]) (Wo_all (by simp only [simq, Int.reduceEq, Nat.reduceEqDiff]; rfl) ?_)))))
    refine W_else (by simp only [simq, Int.reduceEq, Nat.reduceEqDiff]) (W_exit (hq1 _ _ p _ c [] ps g A ?_ hcnt hsh (by simp only [simq, Int.reduceEq, Nat.reduceEqDiff, k2]) (by simp only [simq, Int.reduceEq, Nat.reduceEqDiff, k3]) (by simp only [simq, Int.reduceEq, Nat.reduceEqDiff, k4]) (by simp only [simq, Int.reduceEq, Nat.reduceEqDiff, k7]) (by simp only [simq, Int.reduceEq, Nat.reduceEqDiff, k8]) (by simp only [simq, Int.reduceEq, Nat.reduceEqDiff, k9])))
    rw [hpg]; simp
  | cons x r =>
  have d1 : decide ((0 : Int) < (((x :: r).length : Nat) : Int)) = true := by simp
  obtain ⟨a, rfl, hcell⟩ := A.wl.m.1.cell (i := 0) (by simp)
  have hcell : t.cell (a.add 0) = some (strOf x) := hcell
  have hz : asNat (.int .i64 0) = some 0 := rfl
  have hb : Nat.blt 0 (x :: r).length = true := rfl
  have w1 : wr .i64 (((ps.length : Nat) : Int) + 1) = ((ps.length + 1 : Nat) : Int) := by rw [wr_i64 (by omega) (by omega)]; omega
  have hito := pItoa_run (s := t) (g := 0) (n := ps.length + 1) (G.next A.L).tab (by omega)
  have hdl := dec_len (ps.length + 1)
  have hadd : binOp .add (strOf [37, 37, 80, 97, 103, 101, 58, 32]) (strOf (dec (ps.length + 1))) = some (strOf (wPage ++ dec (ps.length + 1))) := bin_addS _ _ (by simp; omega)
  have c3' := c3
  rw [hg] at c3'
  refine W_seq (W_seq (W_ops (Wo_run (by simp only [simq, Int.reduceEq, Nat.reduceEqDiff, k2, k3, k4, Int.ofNat_eq_natCast, d1, hz, hb, hcell, c3', w1]; rfl) (Wo_gtA (by simp only [simq, Int.reduceEq, Nat.reduceEqDiff]) (Wo_opA (v := strOf (dec (ps.length + 1))) (s' := t) (by simp only [simq, Int.reduceEq, Nat.reduceEqDiff, pc_some P.itoa, hito]) (again_guard (by simp only [simq, Int.reduceEq, Nat.reduceEqDiff]) (again_load1 (p := a.add 0) (by simp only [simq, Int.reduceEq, Nat.reduceEqDiff]) hcell (by simp only [simq, Int.reduceEq, Nat.reduceEqDiff]) (same_str _) again_nil)) ?_)))))
  by_cases hx : x = wPage ++ dec (ps.length + 1)
  case neg =>
    have d2 : decide (x = wPage ++ dec (ps.length + 1)) = false := decide_eq_false hx
    refine Wo_all (by simp only [simq, Int.reduceEq, Nat.reduceEqDiff, hadd, d2]; rfl) ?_
    rw [pagesP, if_neg hx] at hpg
    refine W_else (by simp only [simq, Int.reduceEq, Nat.reduceEqDiff]) (W_exit (hq1 _ _ _ _ c (x :: r) ps g A ?_ hcnt hsh (by simp only [simq, Int.reduceEq, Nat.reduceEqDiff, k2]) (by simp only [simq, Int.reduceEq, Nat.reduceEqDiff, k3]) (by simp only [simq, Int.reduceEq, Nat.reduceEqDiff, k4]) (by simp only [simq, Int.reduceEq, Nat.reduceEqDiff, k7]) (by simp only [simq, Int.reduceEq, Nat.reduceEqDiff, k8]) (by simp only [simq, Int.reduceEq, Nat.reduceEqDiff, k9])))
    rw [hpg]; simp
  have d2 : decide (x = wPage ++ dec (ps.length + 1)) = true := decide_eq_true hx
  refine Wo_all (by simp only [simq, Int.reduceEq, Nat.reduceEqDiff, hadd, d2]; rfl) ?_
  rw [pagesP, if_pos hx] at hpg
  refine W_then (by simp only [simq, Int.reduceEq, Nat.reduceEqDiff]) (W_skip ?_)
  show W E _ _ _ _
  refine W_gen (T := [(2, ptr d 0), (4, .slice (some a) (x :: r).length c), (7, strOf told), (8, .int .i64 (ti : Nat)), (9, .int .i64 (co : Nat))]) (all_cons (by simp only [simq, Int.reduceEq, Nat.reduceEqDiff, k2]) (all_cons (by simp only [simq, Int.reduceEq, Nat.reduceEqDiff, k4]) (all_cons (by simp only [simq, Int.reduceEq, Nat.reduceEqDiff, k7]) (all_cons (by simp only [simq, Int.reduceEq, Nat.reduceEqDiff, k8]) (all_cons (by simp only [simq, Int.reduceEq, Nat.reduceEqDiff, k9]) all_nil))))) fun fr2 gf => ?_
  clear k2 k3 k4 k7 k8 k9
  have k2 := gf _ (.head _)
  have k4 := gf _ (.tail _ (.head _))
  have k7 := gf _ (.tail _ (.tail _ (.head _)))
  have k8 := gf _ (.tail _ (.tail _ (.tail _ (.head _))))
  have k9 := gf _ (.tail _ (.tail _ (.tail _ (.tail _ (.head _)))))
  simp only at k2 k4 k7 k8 k9
  clear gf
  have hs1 : ∀ t : St, sliceOp t 1 (.slice (some a) (x :: r).length c) (some (.int .i64 1)) none none = some (.slice (subP (some a) c 1) ((x :: r).length - 1) (c - 1)) := fun t => slice_from (l := 1) hcap (by simp) hnc
  have wr1 := A.wl.cut (l := 1) (k := (x :: r).length) (by simp) (Nat.le_refl _)
  have er : ((x :: r).drop 1).take ((x :: r).length - 1) = r := by simp
  rw [er] at wr1
  have hshr : ∀ y ∈ r, y.length ≤ 100000 := fun y hy => hsh y (List.mem_cons_of_mem _ hy)
  refine W_block (W_seq (W_opsM (Wo_run (by simp only [simq, Int.reduceEq, Nat.reduceEqDiff, k4, hs1]; rfl) (Wo_call hC.page_body.prim (args := [.slice (subP (some a) c 1) ((x :: r).length - 1) (c - 1)]) (by simp only [simq, Int.reduceEq, Nat.reduceEqDiff]; try rfl) ((body_run hC P hC.page_body (G.next A.L) wr1.texts (by omega) (by simp at hcnt; omega) hshr).mono ?_)))))
  rintro _ t2 ⟨l2, rfl⟩
  refine Wo_all (by simp only [simq, Int.reduceEq, Nat.reduceEqDiff, nth0, nth1]; rfl) ?_
  show W E _ _ _ _
  have hl2 := l2.2.1
  have L2 : Low s.next s t2 := A.L.trans (l2.weak hL)
  have row2 := A.row.low l2 (by omega)
  have wh2 := A.wh.low l2 (by omega)
  have ww2 := A.ww.low l2 (by omega)
  have wl2 := A.wl.low l2 (by omega)
  have c3b : t2.cell ⟨d, 3, none⟩ = some g := row2.cell 3
  have hnb : bodyN (bodyP false r) ≤ r.length := by
    cases hbp : bodyP false r with
    | none => exact Nat.zero_le _
    | some z => obtain ⟨q, w⟩ := z; exact bodyP_le r false q w hbp
  generalize hnbv : bodyN (bodyP false r) = nb at *
  have hrl : (x :: r).length = r.length + 1 := rfl
  have w2 : wr .i64 (((nb : Nat) : Int) + 1) = ((nb + 1 : Nat) : Int) := by rw [wr_i64 (by simp at hcnt; omega) (by simp at hcnt; omega)]; omega
  have hs2 : ∀ t : St, sliceOp t 1 (.slice (some a) (x :: r).length c) (some (.int .i64 1)) (some (.int .i64 ((nb + 1 : Nat) : Int))) none = some (.slice (subP (some a) c 1) (nb + 1 - 1) (c - 1)) := fun t => slice_ex (l := 1) hcap (by omega) (by omega)
  have hs3 : ∀ t : St, sliceOp t 1 (.slice (some a) (x :: r).length c) (some (.int .i64 ((nb + 1 : Nat) : Int))) none none = some (.slice (subP (some a) c (nb + 1)) ((x :: r).length - (nb + 1)) (c - (nb + 1))) := fun t => slice_from hcap (by omega) hnc
  have wpg := wl2.cut (l := 1) (k := nb + 1) (by omega) (by omega)
  have wcu := wl2.cut (l := nb + 1) (k := (x :: r).length) (by omega) (Nat.le_refl _)
  have e1 : ((x :: r).drop 1).take (nb + 1 - 1) = r.take nb := by simp
  have e2 : ((x :: r).drop (nb + 1)).take ((x :: r).length - (nb + 1)) = r.drop nb := by
    rw [List.drop_succ_cons]
    exact List.take_of_length_le (by simp)
  rw [e1] at wpg
  rw [e2] at wcu
  refine W_ops (Wo_run (l := [_, _, _, _, _, _, _, _, _, _]) (by simp only [simq, Int.reduceEq, Nat.reduceEqDiff, k2, k4, c3b, w2, hs2, hs3]; rfl) ?_)
  refine Wo_buildSlice (size := 1) (lo := t2.next) (n := 1) (cs := [.slice (subP (some a) c 1) (nb + 1 - 1) (c - 1)]) (by simp only [simq, Int.reduceEq, Nat.reduceEqDiff]; rfl) rfl (Nat.le_add_right _ _) (by rw [next_skip]; omega) (by unfold open_; omega) ?_
  rintro t3 ⟨S3, -⟩ l3 hs3'
  have L3 : Low t2.next t2 t3 := ((Low.self t2).skip 15).trans l3
  have hl3 := L3.2.1
  have row3 := row2.low L3 (by omega)
  obtain ⟨g', t4, t5, e4, p5, Row5, G5, n5, f5, x5, y5, z5⟩ := put_app (o := 3) (T := 24) (bytes := 24) (L := lo) row3 (by omega) (by omega) ((g1.low l2 (Nat.le_refl _)).low L3 (Nat.le_refl _)) (by simp) S3.feed (by simp [room]; simp at hcnt; omega)
  have keep : ∀ c, c < lo → c ≠ d → t5.get c = t2.get c := fun c hc hcd => (f5 c hc hcd).trans (L3.2.2 c (by omega))
  refine Wo_opA (v := g') (s' := t4) (by simp only [simq, Int.reduceEq, Nat.reduceEqDiff, e4]; try rfl) (again_slice (v := .slice (subP (some a) c (nb + 1)) ((x :: r).length - (nb + 1)) (c - (nb + 1))) (by simp only [simq, Int.reduceEq, Nat.reduceEqDiff, hs3]) (by simp only [simq, Int.reduceEq, Nat.reduceEqDiff]) (wl2.sub_same _ _ _) again_nil) ?_
  refine Wo_run (l := [_]) (by simp only [simq, Int.reduceEq, Nat.reduceEqDiff, k2]; rfl) ?_
  refine Wo_opA (s' := t5) (by simp only [simq, Int.reduceEq, Nat.reduceEqDiff, k2, p5, x5, y5, z5]; rfl) (again_slice (v := .slice (subP (some a) c (nb + 1)) ((x :: r).length - (nb + 1)) (c - (nb + 1))) (by simp only [simq, Int.reduceEq, Nat.reduceEqDiff, hs3]) (by simp only [simq, Int.reduceEq, Nat.reduceEqDiff]) (wl2.sub_same _ _ _) again_nil) ?_
  refine Wo_all (by simp only [simq, Int.reduceEq, Nat.reduceEqDiff]; rfl) ?_
  have L5 : Low s.next s t5 := by
    refine ⟨Nat.le_refl _, by omega, fun c hc => ?_⟩
    rw [keep c (by omega) (by omega)]
    exact L2.2.2 c hc
  have A5 : bodyO (bodyP false r) = true → PSt s d H lo hp hn hc hdr wp wn wc pro tit t5 (subP (some a) c (nb + 1)) ((x :: r).length - (nb + 1)) (c - (nb + 1)) (r.drop nb) (ps ++ [r.take nb]) g' := fun _ => by
    refine ⟨L5, Row5, wh2.keep fun c h1 h2 => keep c (by omega) (by omega), ww2.keep fun c h1 h2 => keep c (by omega) (by omega), wcu.keep fun c h1 h2 => keep c (by omega) (by omega), ⟨vs ++ [.slice (subP (some a) c 1) (nb + 1 - 1) (c - 1)], G5, by simp [g2], fun i z q hz hq => ?_⟩, by omega⟩
    by_cases hi : i < vs.length
    · rw [List.getElem?_append_left hi] at hz
      rw [List.getElem?_append_left (by omega)] at hq
      exact ((g3 i z q hz hq).low l2 (by omega)).keep fun c h1 h2 => keep c (by omega) (by omega)
    · have hil : i = vs.length := by
        have := (List.getElem?_eq_some_iff.1 hz).1
        simp at this; omega
      subst hil
      rw [List.getElem?_append_right (Nat.le_refl _), Nat.sub_self] at hz
      rw [g2, List.getElem?_append_right (Nat.le_refl _), Nat.sub_self] at hq
      cases hz
      cases hq
      exact wpg.m.keep fun c h1 h2 => keep c (by omega) (by omega)
  cases hbp : bodyP false r with
  | none =>
    rw [hbp] at hpg
    exact ⟨0, by omega, .inr ⟨rfl, hbad hpg, L5, ⟨_, Row5, rfl⟩, by simp only [simq, Int.reduceEq, Nat.reduceEqDiff, k2], by simp only [simq, Int.reduceEq, Nat.reduceEqDiff]; rfl⟩⟩
  | some z =>
    obtain ⟨q, ok⟩ := z
    rw [hbp] at hpg hnbv A5
    have hnbv : q = nb := hnbv
    subst hnbv
    cases ok with
    | false => exact ⟨0, by omega, .inr ⟨rfl, hbad hpg, L5, ⟨_, Row5, rfl⟩, by simp only [simq, Int.reduceEq, Nat.reduceEqDiff, k2], by simp only [simq, Int.reduceEq, Nat.reduceEqDiff]; rfl⟩⟩
    | true =>
      refine ⟨(r.drop q).length + 1, by simp; omega, .inl ⟨_, _, _, r.drop q, ps ++ [r.take q], g', rfl, A5 rfl, ?_, by simp at hcnt ⊢; omega, fun y hy => hshr y (List.mem_of_mem_drop hy), by simp only [simq, Int.reduceEq, Nat.reduceEqDiff, k2], by simp only [simq, Int.reduceEq, Nat.reduceEqDiff]; rfl, by simp only [simq, Int.reduceEq, Nat.reduceEqDiff], by simp only [simq, Int.reduceEq, Nat.reduceEqDiff, k7], by simp only [simq, Int.reduceEq, Nat.reduceEqDiff, k8], by simp only [simq, Int.reduceEq, Nat.reduceEqDiff, k9]⟩⟩
      have hl1 : (ps ++ [r.take q]).length = ps.length + 1 := by simp
      have hm : ∀ o : Option (List (List Ln) × List Ln), (o.map fun x => (r.take q :: x.1, x.2)).map (fun x => (ps ++ x.1, x.2)) = o.map fun x => ((ps ++ [r.take q]) ++ x.1, x.2) := fun o => by
        cases o with
        | none => rfl
        | some y => simp
      rw [hpg, hl1, ← hm]
end
end
end Go.Ev
