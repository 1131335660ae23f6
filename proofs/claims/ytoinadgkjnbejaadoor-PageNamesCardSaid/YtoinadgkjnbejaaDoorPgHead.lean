/-
  The document's reader: the header.
-/
import Derived.Test.YtoinadgkjnbejaaDoorPgRead2
set_option linter.unusedVariables false
set_option linter.unusedSimpArgs false
namespace Go.Ev
noncomputable section
open Go.Pg
def toldZ (o : Option Nat) : Int := match o with | some n => (n : Int) | none => -1
theorem numZ_told (l : Ln) : numZ l = toldZ (Pg.num l) := rfl
theorem toldZ_neg (o : Option Nat) : decide (toldZ o < 0) = o.isNone := by
  cases o with
  | none => rfl
  | some n => show decide (((n : Nat) : Int) < 0) = false; simp
section
variable {E : Env} {f : FuncId} {s t u : St} {hi a d c : Nat} {v : Value} {ls : List Ln} {k : Nat}
set_option maxHeartbeats 8000000 in
theorem header_run (hC : Codes E) (hf : Has E f Code._tithing_tithingref14_reader_header) (R : Rdr s hi a v ls k) {c2 c3 c4 : Value} (D : Row s d [strOf [], .slice none 0 0, c2, c3, c4]) (had : a < d) (hds : d < s.next) : Cv E f [ptr a 0, ptr d 0] s fun r t => Two a d s t ∧ (headR (ls.drop k) none none = none → r = .tuple ⟨[.int .i64 0, .bool false]⟩) ∧ ∀ x, headR (ls.drop k) none none = some x → ∃ h j, r = .tuple ⟨[.int .i64 (toldZ x.1), .bool true]⟩ ∧ Row t d [strOf (x.2.1.getD []), h, c2, c3, c4] ∧ Mid t s.next t.next 1 h (x.2.2.1.map strOf) ∧ Rdr t hi a v ls j ∧ ls.drop j = x.2.2.2 := by
  refine Cv_of hf.code ?_
  have h0 : (Tr.ofList (.e : Fr) 0 [ptr a 0, ptr d 0]).get 0 = some (ptr a 0) := rfl
  have h1 : (Tr.ofList (.e : Fr) 0 [ptr a 0, ptr d 0]).get 1 = some (ptr d 0) := rfl
  generalize (Tr.ofList (.e : Fr) 0 [ptr a 0, ptr d 0]) = fr0 at h0 h1
  unfold Code._tithing_tithingref14_reader_header
  refine W_seq (W_region (by simp only [simq, Int.reduceEq, Nat.reduceEqDiff]; rfl) ?_)
  refine W_seq (W_region (by simp only [simq, Int.reduceEq, Nat.reduceEqDiff]; rfl) ?_)
  refine W_block ?_
  refine W_inv (fun m fr t => ∃ j told ti acc h, m = ls.length - j ∧ Rdr t hi a v ls j ∧ Row t d [strOf (Option.getD ti []), h, c2, c3, c4] ∧ Gr t s.next 1 h (acc.map strOf) ∧ Two a d s t ∧ acc.length ≤ j ∧ headR (ls.drop k) none none = (headR (ls.drop j) told ti).map (fun x => (x.1, x.2.1, acc ++ x.2.2.1, x.2.2.2)) ∧ fr.get 0 = some (ptr a 0) ∧ fr.get 1 = some (ptr d 0) ∧ fr.get 6 = some (.int .i64 (toldZ told)) ∧ fr.get 7 = some (.bool (Option.isSome ti))) ?_ (ls.length - k) _ s ⟨k, none, none, [], .slice none 0 0, rfl, R, D, .nil, Two.refl _ _ _, Nat.zero_le _, by simp, by simp only [simq, Int.reduceEq, Nat.reduceEqDiff, h0], by simp only [simq, Int.reduceEq, Nat.reduceEqDiff, h1], by simp only [simq, Int.reduceEq, Nat.reduceEqDiff]; rfl, by simp only [simq, Int.reduceEq, Nat.reduceEqDiff]; rfl⟩
  rintro m fr t ⟨j, told, ti, acc, h, rfl, Rt, Dt, gw, F, hacc, hhd, k0, k1, k6, k7⟩
  unfold Code._tithing_tithingref14_reader_header_l0
  have hjl := Rt.kle
  have hfew := Rt.few
  have halt := R.lt
  have hage := R.ge
  have F1 := F.1
  have tn := toldZ_neg told
  refine W_block (W_seq (W_opsM (Wo_run (by simp only [simq, Int.reduceEq, Nat.reduceEqDiff, k0]; rfl) (Wo_call hC._tithing_tithingref14_reader_next.prim (args := [ptr a 0]) (by simp only [simq, Int.reduceEq, Nat.reduceEqDiff]; try rfl) ((next_run hC hC._tithing_tithingref14_reader_next Rt).mono ?_)))))
  rintro _ _ ⟨hs, rfl⟩
  rw [hs]; clear hs
  refine Wo_all (by simp only [simq, Int.reduceEq, Nat.reduceEqDiff, nth0, nth1, nth2]; rfl) ?_
  show W E _ _ _ _
  have cell1 : t.cell ⟨a, 1, none⟩ = some (.int .i64 (j : Nat)) := Rt.row.cell 1
  by_cases hlt : j < ls.length
  case neg =>
    have e0 : ls.drop j = [] := List.drop_eq_nil_of_le (by omega)
    rw [e0, headR] at hhd
    have w1 : wr .i64 ((j : Int) + 1) = ((j + 1 : Nat) : Int) := by rw [wr_i64 (by omega) (by omega)]; omega
    obtain ⟨s1, p1, R1, n1, f1⟩ := Rt.row.put (o := 1) (vs := [.int .i64 ((j + 1 : Nat) : Int)]) (by simp)
    have F2 : Two a d s s1 := F.trans (but_put n1 f1).two
    have n9 : (((nx ls j).2.1 : Nat) : Int) = 9 := by rw [nx_none hlt]; rfl
    refine W_seq (W_region (by simp only [simq, Int.reduceEq, Nat.reduceEqDiff, k0, cell1, nilOk_ptr, w1, p1]; rfl) ?_)
    refine W_seq (W_block (W_seq (W_region (by simp only [simq, Int.reduceEq, Nat.reduceEqDiff, n9]; rfl) (W_else (by simp only [simq, Int.reduceEq, Nat.reduceEqDiff]) (W_seq (W_region (by simp only [simq, Int.reduceEq, Nat.reduceEqDiff, n9]; rfl) (W_else (by simp only [simq, Int.reduceEq, Nat.reduceEqDiff]) (W_seq (W_region (by simp only [simq, Int.reduceEq, Nat.reduceEqDiff, n9]; rfl) (W_else (by simp only [simq, Int.reduceEq, Nat.reduceEqDiff]) (W_seq (W_region (by simp only [simq, Int.reduceEq, Nat.reduceEqDiff, n9]; rfl) (W_then (by simp only [simq, Int.reduceEq, Nat.reduceEqDiff]) (W_seq (W_region (by simp only [simq, Int.reduceEq, Nat.reduceEqDiff]; rfl) (W_ret ⟨rfl, _, res_tmp (res_tmp res_nil), F2, fun _ => ?_, fun x hx => ?_⟩))))))))))))))))
    · simp only [simq, Int.reduceEq, Nat.reduceEqDiff, tupled]
    · rw [hhd] at hx; cases hx
  have hx := nx_some hlt
  have e0 : ls.drop j = ls[j] :: ls.drop (j + 1) := List.drop_eq_getElem_cons hlt
  rw [hx]
  simp only
  generalize ls[j] = X at *
  rw [e0, headR] at hhd
  obtain ⟨s1, p1, R1, B1, n1, w1⟩ := Rt.step hlt
  refine W_seq (W_region (by simp only [simq, Int.reduceEq, Nat.reduceEqDiff, k0, cell1, nilOk_ptr, w1, p1]; rfl) ?_)
  have F2 : Two a d s s1 := F.trans B1.two
  have D1 := Dt.but B1 (by omega) (by omega)
  have g1 := gw.but B1 halt
  generalize hK : (kd X).1 = K at *
  generalize hY : (kd X).2 = Y at *
  refine W_seq (W.mono (Q := fun e fr' t' => (t' = s1 ∧ e = .ret ∧ headR (ls.drop k) none none = none ∧ fr'.get 4 = some (.int .i64 0) ∧ fr'.get 5 = some (.bool false)) ∨ (t' = s1 ∧ e = .ret ∧ headR (ls.drop k) none none = some (told, ti, acc ++ [], ls.drop (j + 1)) ∧ fr'.get 4 = some (.int .i64 (toldZ told)) ∧ fr'.get 5 = some (.bool true)) ∨ (e = .normal ∧ ∃ told' ti', headR (ls.drop k) none none = (headR (ls.drop (j + 1)) told' ti').map (fun x => (x.1, x.2.1, (acc ++ [X]) ++ x.2.2.1, x.2.2.2)) ∧ But d s1 t' ∧ t'.next = s1.next ∧ Row t' d [strOf (Option.getD ti' []), h, c2, c3, c4] ∧ fr'.get 0 = some (ptr a 0) ∧ fr'.get 1 = some (ptr d 0) ∧ fr'.get 6 = some (.int .i64 (toldZ told')) ∧ fr'.get 7 = some (.bool (Option.isSome ti')) ∧ fr'.get 8 = some (strOf X))) ?_ ?_)
  · refine W_block ?_
    by_cases z3 : K = 3
    · have d3 : decide (((K : Nat) : Int) = 3) = true := by simp; omega
      rw [if_pos z3] at hhd
      exact W_seq (W_region (by simp only [simq, Int.reduceEq, Nat.reduceEqDiff, d3]; rfl) (W_then (by simp only [simq, Int.reduceEq, Nat.reduceEqDiff]) (W_seq (W_region (by simp only [simq, Int.reduceEq, Nat.reduceEqDiff, k6]; rfl) (W_ret (.inr (.inl ⟨rfl, rfl, hhd, by simp only [simq, Int.reduceEq, Nat.reduceEqDiff], by simp only [simq, Int.reduceEq, Nat.reduceEqDiff]⟩)))))))
    have d3 : decide (((K : Nat) : Int) = 3) = false := by simp; omega
    rw [if_neg z3] at hhd
    refine W_seq (W_region (by simp only [simq, Int.reduceEq, Nat.reduceEqDiff, d3]; rfl) (W_else (by simp only [simq, Int.reduceEq, Nat.reduceEqDiff]) ?_))
    have mapm : ∀ {o : Option (Option Nat × Option Ln × List Ln × List Ln)}, (o.map (fun x => (x.1, x.2.1, X :: x.2.2.1, x.2.2.2))).map (fun x => (x.1, x.2.1, acc ++ x.2.2.1, x.2.2.2)) = o.map (fun x => (x.1, x.2.1, (acc ++ [X]) ++ x.2.2.1, x.2.2.2)) := by
      intro o
      rw [Option.map_map]
      congr 1
      funext z
      simp
    by_cases z1 : K = 1
    · have d1 : decide (((K : Nat) : Int) = 1) = true := by simp; omega
      cases ti with
      | none =>
        rw [if_pos ⟨z1, rfl⟩, mapm] at hhd
        refine W_seq (W_region (by simp only [simq, Int.reduceEq, Nat.reduceEqDiff, d1, k7, Option.isSome_none]; rfl) (W_then (by simp only [simq, Int.reduceEq, Nat.reduceEqDiff]) ?_))
        obtain ⟨s2, p2, Row2, n2, f2⟩ := D1.put (o := 0) (vs := [strOf Y]) (by simp)
        have hy : storable (strOf Y) = true ∧ vcells (strOf Y) = [strOf Y] ∧ Nat.beq (lenL [strOf Y]) 1 = true := ⟨rfl, rfl, rfl⟩
        exact W_region (by simp only [simq, Int.reduceEq, Nat.reduceEqDiff, k1, nilOk_ptr, hy.1, hy.2.1, hy.2.2, p2]; rfl) (.inr (.inr ⟨rfl, told, some Y, hhd, but_put n2 f2, n2, Row2, by simp only [simq, Int.reduceEq, Nat.reduceEqDiff, k0], by simp only [simq, Int.reduceEq, Nat.reduceEqDiff, k1], by simp only [simq, Int.reduceEq, Nat.reduceEqDiff, k6], by simp only [simq, Int.reduceEq, Nat.reduceEqDiff]; rfl, by simp only [simq, Int.reduceEq, Nat.reduceEqDiff]⟩))
      | some y0 =>
        have d2 : decide (((K : Nat) : Int) = 2) = false := by simp; omega
        have dz : decide (((K : Nat) : Int) = 0) = false := by simp; omega
        rw [if_neg (fun c => by cases c.2), if_neg (fun c => by omega), if_pos (by omega)] at hhd
        refine W_seq (W_region (by simp only [simq, Int.reduceEq, Nat.reduceEqDiff, d1, k7, Option.isSome_some]; rfl) (W_else (by simp only [simq, Int.reduceEq, Nat.reduceEqDiff]) ?_))
        refine W_seq (W_region (by simp only [simq, Int.reduceEq, Nat.reduceEqDiff, d2]; rfl) (W_else (by simp only [simq, Int.reduceEq, Nat.reduceEqDiff]) ?_))
        exact W_seq (W_region (by simp only [simq, Int.reduceEq, Nat.reduceEqDiff, dz]; rfl) (W_then (by simp only [simq, Int.reduceEq, Nat.reduceEqDiff]) (W_seq (W_region (by simp only [simq, Int.reduceEq, Nat.reduceEqDiff]; rfl) (W_ret (.inl ⟨rfl, rfl, hhd, by simp only [simq, Int.reduceEq, Nat.reduceEqDiff], by simp only [simq, Int.reduceEq, Nat.reduceEqDiff]⟩))))))
    have d1 : decide (((K : Nat) : Int) = 1) = false := by simp; omega
    rw [if_neg (fun c => z1 c.1)] at hhd
    refine W_seq (W_region (by simp only [simq, Int.reduceEq, Nat.reduceEqDiff, d1]; rfl) (W_else (by simp only [simq, Int.reduceEq, Nat.reduceEqDiff]) ?_))
    by_cases z2 : K = 2
    · have d2 : decide (((K : Nat) : Int) = 2) = true := by simp; omega
      cases told with
      | none =>
        rw [if_pos ⟨z2, rfl⟩, mapm] at hhd
        have tn' : decide (toldZ none < 0) = true := tn
        refine W_seq (W_region (by simp only [simq, Int.reduceEq, Nat.reduceEqDiff, d2, k6, tn']; rfl) (W_then (by simp only [simq, Int.reduceEq, Nat.reduceEqDiff]) ?_))
        refine W_opsM (Wo_run (by simp only [simq, Int.reduceEq, Nat.reduceEqDiff]; rfl) (Wo_call hC.tithingref14_number.prim (args := [strOf Y]) (by simp only [simq, Int.reduceEq, Nat.reduceEqDiff]; try rfl) ((number_run hC.tithingref14_number Y).mono ?_)))
        rintro _ _ ⟨hs, rfl⟩
        rw [hs]; clear hs
        exact Wo_all (by simp only [simq, Int.reduceEq, Nat.reduceEqDiff]; rfl) (.inr (.inr ⟨rfl, Pg.num Y, ti, hhd, But.refl _ _, rfl, D1, by simp only [simq, Int.reduceEq, Nat.reduceEqDiff, k0], by simp only [simq, Int.reduceEq, Nat.reduceEqDiff, k1], by simp only [simq, Int.reduceEq, Nat.reduceEqDiff, numZ_told], by simp only [simq, Int.reduceEq, Nat.reduceEqDiff, k7], by simp only [simq, Int.reduceEq, Nat.reduceEqDiff]⟩))
      | some n0 =>
        have tn' : decide (toldZ (some n0) < 0) = false := tn
        have dz : decide (((K : Nat) : Int) = 0) = false := by simp; omega
        rw [if_neg (fun c => by cases c.2), if_pos (by omega)] at hhd
        refine W_seq (W_region (by simp only [simq, Int.reduceEq, Nat.reduceEqDiff, d2, k6, tn']; rfl) (W_else (by simp only [simq, Int.reduceEq, Nat.reduceEqDiff]) ?_))
        exact W_seq (W_region (by simp only [simq, Int.reduceEq, Nat.reduceEqDiff, dz]; rfl) (W_then (by simp only [simq, Int.reduceEq, Nat.reduceEqDiff]) (W_seq (W_region (by simp only [simq, Int.reduceEq, Nat.reduceEqDiff]; rfl) (W_ret (.inl ⟨rfl, rfl, hhd, by simp only [simq, Int.reduceEq, Nat.reduceEqDiff], by simp only [simq, Int.reduceEq, Nat.reduceEqDiff]⟩))))))
    have d2 : decide (((K : Nat) : Int) = 2) = false := by simp; omega
    rw [if_neg (fun c => z2 c.1)] at hhd
    refine W_seq (W_region (by simp only [simq, Int.reduceEq, Nat.reduceEqDiff, d2]; rfl) (W_else (by simp only [simq, Int.reduceEq, Nat.reduceEqDiff]) ?_))
    by_cases z0 : K = 0
    · have dz : decide (((K : Nat) : Int) = 0) = true := by simp; omega
      rw [if_neg (fun c => c z0), mapm] at hhd
      exact W_seq (W_region (by simp only [simq, Int.reduceEq, Nat.reduceEqDiff, dz]; rfl) (W_else (by simp only [simq, Int.reduceEq, Nat.reduceEqDiff]) (W_skip (.inr (.inr ⟨rfl, told, ti, hhd, But.refl _ _, rfl, D1, by simp only [simq, Int.reduceEq, Nat.reduceEqDiff, k0], by simp only [simq, Int.reduceEq, Nat.reduceEqDiff, k1], by simp only [simq, Int.reduceEq, Nat.reduceEqDiff, k6], by simp only [simq, Int.reduceEq, Nat.reduceEqDiff, k7], by simp only [simq, Int.reduceEq, Nat.reduceEqDiff]⟩)))))
    · have dz : decide (((K : Nat) : Int) = 0) = false := by simp; omega
      rw [if_pos z0] at hhd
      exact W_seq (W_region (by simp only [simq, Int.reduceEq, Nat.reduceEqDiff, dz]; rfl) (W_then (by simp only [simq, Int.reduceEq, Nat.reduceEqDiff]) (W_seq (W_region (by simp only [simq, Int.reduceEq, Nat.reduceEqDiff]; rfl) (W_ret (.inl ⟨rfl, rfl, hhd, by simp only [simq, Int.reduceEq, Nat.reduceEqDiff], by simp only [simq, Int.reduceEq, Nat.reduceEqDiff]⟩))))))
  rintro e fr2 t2 (⟨ht, rfl, hn, r4, r5⟩ | ⟨ht, rfl, hn, r4, r5⟩ | ⟨rfl, told', ti', hn, B2, n2, D2, r0, r1, r6, r7, r8⟩)
  · rw [ht]; clear ht
    refine ⟨rfl, _, res_tmp (res_tmp res_nil), F2, fun _ => ?_, fun x hx => ?_⟩
    · simp only [simq, Int.reduceEq, Nat.reduceEqDiff, tupled, r4, r5]
    · rw [hn] at hx; cases hx
  · rw [ht]; clear ht
    refine ⟨rfl, _, res_tmp (res_tmp res_nil), F2, fun hx => ?_, fun x hx => ?_⟩
    · rw [hn] at hx; cases hx
    · rw [hn] at hx
      have hx := Option.some.inj hx
      subst hx
      refine ⟨h, j + 1, by simp only [simq, Int.reduceEq, Nat.reduceEqDiff, tupled, r4, r5], D1, ?_, R1, rfl⟩
      simp only [List.append_nil]
      exact g1.mid
  show W E _ fr2 _ _
  have F3 : Two a d s t2 := F2.trans B2.two'
  have R2 : Rdr t2 hi a v ls (j + 1) := R1.but B2 (by omega) (by omega)
  have g2 := g1.but B2 hds
  have F31 := F3.1
  have cellh : t2.cell ⟨d, 1, none⟩ = some h := D2.cell 1
  refine W_ops (Wo_run (l := [_, _, _, _, _, _]) (by simp only [simq, Int.reduceEq, Nat.reduceEqDiff, r1, r8, cellh, nilOk_ptr]; rfl) ?_)
  refine Wo_buildSlice (size := 1) (lo := t2.next) (n := 1) (cs := [strOf X]) (by simp only [simq, Int.reduceEq, Nat.reduceEqDiff]; rfl) rfl (Nat.le_add_right _ _) (by rw [next_skip]; omega) (by decide) ?_
  rintro s3 ⟨S3, -⟩ l3 hs3
  have L3 : Low t2.next t2 s3 := ((Low.self t2).skip 11).trans l3
  have F4 : Two a d s s3 := F3.trans L3.two
  have Row3 := D2.low L3 (by omega)
  have R3 := R2.low L3 R2.lt
  have g3 := g2.low L3 (Nat.le_refl _)
  obtain ⟨h', s4, s5, e4, p5, Row5, g5, n5, f5, x5, y5, z5⟩ := put_app (o := 1) (T := 9) (bytes := 16) Row3 hds F4.1 g3 (by simp) S3.feed (by simp [room]; omega)
  refine Wo_all (by simp only [simq, Int.reduceEq, Nat.reduceEqDiff, r1, nilOk_ptr, e4, p5, x5, y5, z5]; rfl) ?_
  have F5 : Two a d s s5 := F4.on n5 (Nat.le_refl _) f5
  have R5 : Rdr s5 hi a v ls (j + 1) := by
    refine ⟨?_, R3.sl.sub fun c hc => f5 c (by omega) (by omega), R3.few, R3.sh, R3.ge, Nat.lt_of_lt_of_le R3.lt n5, R3.kle⟩
    obtain ⟨es, hr⟩ := R3.row
    exact ⟨es, (f5 a halt (by omega)).trans hr⟩
  refine ⟨ls.length - (j + 1), by omega, j + 1, told', ti', acc ++ [X], h', rfl, R5, Row5, ?_, F5, by simp; omega, hn, by simp only [simq, Int.reduceEq, Nat.reduceEqDiff, r0], by simp only [simq, Int.reduceEq, Nat.reduceEqDiff, r1], by simp only [simq, Int.reduceEq, Nat.reduceEqDiff, r6], by simp only [simq, Int.reduceEq, Nat.reduceEqDiff, r7]⟩
  rw [List.map_append]
  exact g5
end
end
end Go.Ev
