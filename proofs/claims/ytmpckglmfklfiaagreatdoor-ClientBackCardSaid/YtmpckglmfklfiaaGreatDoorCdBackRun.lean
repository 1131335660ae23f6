/-
  Bytes and back, calls and replies: the law's walk.
-/
import Derived.Test.YtmpckglmfklfiaaGreatDoorCdBackL
set_option linter.unusedVariables false
set_option linter.unusedSimpArgs false
namespace Go.Ev
open Int renaming reduceEq → rI
open Nat renaming reduceEqDiff → rN
noncomputable section
section
variable {E : Env} {f : FuncId} {s : St} {v w u : Value} {l d : List UInt8} {its : List ItemC}
set_option maxHeartbeats 4000000 in
theorem ClientBack_run (hC : Codes E) (hf : Has E f Code.tithinglaw26_ClientBack) (hF : E.prim 9 = some pTrue) {c : CallC} {r : ReplyC} (hits : its.length < 4611686018427387904) (hw : Sl s s.next 1 w (d.map ofByte)) {w' : Value} {d' : List UInt8} (hw' : Sl s s.next 1 w' (d'.map ofByte)) (hu : Sl s s.next 4 u (itemsC its)) (hv : Sl s s.next 1 v (l.map ofByte)) :
    Cv E f [.agg ⟨c.cells w⟩, .agg ⟨r.cells w' u⟩, v] s fun r s' => r = .bool true := by
  obtain ⟨p, n, k, rfl, hn⟩ := hv.parts
  have hnl : n = l.length := by rw [List.length_map] at hn; omega
  subst hnl
  have hp : ∀ t : St, pTrue [] t = some (.bool true, t) := fun _ => rfl
  have nth0 : ∀ (x y : Value), nthL [x, y] 0 = some x := fun _ _ => rfl
  have nth1 : ∀ (x y : Value), nthL [x, y] 1 = some y := fun _ _ => rfl
  refine Cv_of hf.code ?_
  have h0 : (Tr.ofList (.e : Fr) 0 [.agg ⟨c.cells w⟩, .agg ⟨r.cells w' u⟩, .slice p l.length k]).get 0 = some (.agg ⟨c.cells w⟩) := rfl
  have h1 : (Tr.ofList (.e : Fr) 0 [.agg ⟨c.cells w⟩, .agg ⟨r.cells w' u⟩, .slice p l.length k]).get 1 = some (.agg ⟨r.cells w' u⟩) := rfl
  have h2 : (Tr.ofList (.e : Fr) 0 [.agg ⟨c.cells w⟩, .agg ⟨r.cells w' u⟩, .slice p l.length k]).get 2 = some (.slice p l.length k) := rfl
  generalize (Tr.ofList (.e : Fr) 0 [.agg ⟨c.cells w⟩, .agg ⟨r.cells w' u⟩, .slice p l.length k]) = fr0 at h0 h1 h2
  unfold Code.tithinglaw26_ClientBack
  refine W_seq (W_ops (Wo_box (lo := s.next) (s0 := s) (z := c.cells w) (by simp only [sims, rI, rN, h0]; rfl) rfl rfl ((Low.self s).skip 3) (Nat.le_add_right _ _) (by rw [next_skip]; omega) fun s1 B1 n1 _ => ?_))
  rw [Nat.add_zero] at B1
  rw [next_skip] at n1
  refine Wo_box (lo := s.next) (s0 := s) (z := r.cells w' u) (by simp only [sims, rI, rN, h1]; rfl) rfl rfl B1.low (by omega) (by omega) fun s2 B2 n2 f2 => Wo_all (by simp only [sims, rI, rN]; rfl) ?_
  have A2 : Row s2 s.next (c.cells w) := by
    obtain ⟨es, e⟩ := B1.at_
    exact ⟨es, by rw [f2 _ (by omega)]; exact e⟩
  have C2 : Row s2 (s.next + 1) (r.cells w' u) := B2.at_
  refine W_gen (T := [(2, .slice p l.length k), (3, ptr s.next 0), (4, ptr (s.next + 1) 0)]) (all_cons (by simp only [sims, rI, rN, h2]) (all_cons (by simp only [sims, rI, rN]) (all_cons (by simp only [sims, rI, rN]) all_nil))) fun fr2 g2 => ?_
  have k2 := g2 _ (.head _)
  have k3 := g2 _ (.tail _ (.head _))
  have k4 := g2 _ (.tail _ (.tail _ (.head _)))
  simp only at k2 k3 k4
  clear g2
  have w2 := (hw.low B2.low (Nat.le_refl _)).wide B2.low.2.1
  have w2' := (hw'.low B2.low (Nat.le_refl _)).wide B2.low.2.1
  have u2 := (hu.low B2.low (Nat.le_refl _)).wide B2.low.2.1
  have v2 := (hv.low B2.low (Nat.le_refl _)).wide B2.low.2.1
  have r2 : s2.row ⟨s.next, 0, none⟩ 19 = some (c.cells w) := A2.row rfl
  refine W_seq (W_seq (W_opsM (Wo_run (by simp only [sims, rI, rN, k3, r2]; rfl) (Wo_call hC.tithinglaw26_LongCall.prim (args := [.agg ⟨c.cells w⟩]) (by simp only [sims, rI, rN]) ((LongCall_run hC.tithinglaw26_LongCall c w2).mono ?_)))))
  rintro _ s3 ⟨rfl, l3⟩
  have low3 : Low s2.next s2 s3 := l3
  have r3 : s3.row ⟨s.next + 1, 0, none⟩ 5 = some (r.cells w' u) := (C2.low l3 (by omega)).row rfl
  have w3' := (w2'.low l3 (Nat.le_refl _)).wide l3.2.1
  have u3 := (u2.low l3 (Nat.le_refl _)).wide l3.2.1
  cases hl : c.long d with
  | true =>
    refine Wo_run (l := [_, _]) (by simp only [sims, rI, rN, k2, k3, k4]; rfl) ?_
    refine Wo_gf (by simp only [sims, rI, rN]) (Wo_all (by simp only [sims, rI, rN, k2]; rfl) (W_then (by simp only [sims, rI, rN]) ?_))
    refine W_seq (W_opsM (Wo_all (by simp only [sims, rI, rN, pc_some hF, hp]; rfl) ?_))
    exact W_ret ⟨rfl, _, res_tmp res_nil, by simp only [sims, rI, rN, tupled]⟩
  | false =>
  refine Wo_run (l := [_, _]) (by simp only [sims, rI, rN, k2, k3, k4, r3]; rfl) ?_
  refine Wo_gt (by simp only [sims, rI, rN]) (Wo_call hC.tithinglaw26_longReply.prim (args := [.agg ⟨r.cells w' u⟩]) (by simp only [sims, rI, rN]) ((longReply_run hC.tithinglaw26_longReply r hits w3' u3).mono ?_))
  rintro _ s4 ⟨rfl, l4⟩
  cases hl' : r.long d' its with
  | true =>
    refine Wo_all (by simp only [sims, rI, rN, k2]; rfl) (W_then (by simp only [sims, rI, rN]) ?_)
    refine W_seq (W_opsM (Wo_all (by simp only [sims, rI, rN, pc_some hF, hp]; rfl) ?_))
    exact W_ret ⟨rfl, _, res_tmp res_nil, by simp only [sims, rI, rN, tupled]⟩
  | false =>
  cases hl2 : decide ((2000 : Int) < ((l.length : Nat) : Int)) with
  | true =>
    refine Wo_all (by simp only [sims, rI, rN, k2, lenL_eq, Int.ofNat_eq_natCast, hl2]; rfl) (W_then (by simp only [sims, rI, rN]) ?_)
    refine W_seq (W_opsM (Wo_all (by simp only [sims, rI, rN, pc_some hF, hp]; rfl) ?_))
    exact W_ret ⟨rfl, _, res_tmp res_nil, by simp only [sims, rI, rN, tupled]⟩
  | false =>
  have hll : l.length ≤ 65536 := by simp at hl2; omega
  refine Wo_all (by simp only [sims, rI, rN, k2, lenL_eq, Int.ofNat_eq_natCast, hl2]; rfl) (W_else (by simp only [sims, rI, rN]) (W_skip ?_))
  refine W_gen (T := [(2, .slice p l.length k), (3, ptr s.next 0), (4, ptr (s.next + 1) 0)]) (all_cons (by simp only [sims, rI, rN, k2]) (all_cons (by simp only [sims, rI, rN, k3]) (all_cons (by simp only [sims, rI, rN, k4]) all_nil))) fun fr5 g5 => ?_
  clear k2 k3 k4
  have k2 := g5 _ (.head _)
  have k3 := g5 _ (.tail _ (.head _))
  have k4 := g5 _ (.tail _ (.tail _ (.head _)))
  simp only at k2 k3 k4
  clear g5
  have l24 : Low s2.next s2 s4 := l3.trans (l4.weak l3.2.1)
  have A4 := A2.low l24 (by omega)
  have C4 := C2.low l24 (by omega)
  have w4 := (w2.low l24 (Nat.le_refl _)).wide l24.2.1
  have w4' := (w2'.low l24 (Nat.le_refl _)).wide l24.2.1
  have u4 := (u2.low l24 (Nat.le_refl _)).wide l24.2.1
  have v4 := (v2.low l24 (Nat.le_refl _)).wide l24.2.1
  have hs4 : s.next + 2 ≤ s4.next := by have := l24.2.1; omega
  clear w2 w2' u2 v2 w3' u3 r2 r3 A2 C2 l3 l4 low3
  refine W_seq (W.cut (P := fun e fr' s' => e = .normal ∧ Low s4.next s4 s') ?_ rfl ?_)
  · have r1 : s4.row ⟨s.next, 0, none⟩ 19 = some (c.cells w) := A4.row rfl
    refine W_seq (W_opsM (Wo_run (by simp only [sims, rI, rN, k3, r1]; rfl) (Wo_call hC.client_PutCall.prim (args := [.agg ⟨c.cells w⟩]) (by simp only [sims, rI, rN]) ((PutCall_one hC hC.client_PutCall w4 hl).mono ?_))))
    rintro _ s5 ⟨l5, x, rfl, x5⟩
    by_cases ho : c.ok d
    case neg =>
      rw [show putX c d = 2 from if_neg ho]
      refine Wo_all (by simp only [sims, rI, rN, nth0, nth1]; rfl) ?_
      show W E _ _ s5 _
      refine W_seq (W_region (by simp only [sims, rI, rN]; rfl) ?_)
      exact W_else (by simp only [sims, rI, rN]) (W_skip ⟨rfl, l5⟩)
    rw [show putX c d = 0 from if_pos ho]
    rw [show putM c d = c.bytes d from if_pos ho] at x5
    refine Wo_all (by simp only [sims, rI, rN, nth0, nth1]; rfl) ?_
    show W E _ _ s5 _
    obtain ⟨gE, gC, gD⟩ := gc_fwd ho
    have gE' : Value.int .i64 (gcE (c.bytes d)) = .int .i64 0 := by rw [gE]
    refine W_seq (W_region (by simp only [sims, rI, rN]; rfl) ?_)
    refine W_then (by simp only [sims, rI, rN]) ?_
    have l6 : Low s5.next s5 (s5.skip 8) := (Low.self s5).skip 8
    have hn6 := next_skip s5 8
    refine W_seq (W_opsM (Wo_run (by simp only [sims, rI, rN]; rfl) (Wo_call hC.client_GetCall.prim (by simp only [sims, rI, rN]) ((GetCall_one hC hC.client_GetCall ((x5.low l6 (Nat.le_refl _)).wide l6.2.1) (bytes_small hl)).mono ?_))))
    rintro _ s7 ⟨l67, y, rfl, hy⟩
    rw [gC, gE]
    rw [gD] at hy
    refine Wo_run (l := [_, _, _]) (by simp only [sims, rI, rN, nth0, nth1]; rfl) ?_
    have n7 := l67.2.1
    refine keep_call (c := c) (w := y) (s0 := s5) rfl (by simp only [sims, rI, rN]; try rfl) rfl (l6.trans (l67.weak l6.2.1)) (Nat.le_add_right _ _) (by omega) (by decide) fun s8 R8 l8 n8 f8 => Wo_all (by simp only [sims, rI, rN]; rfl) ?_
    have K8 : But (s5.next + 5) s7 s8 := ⟨by omega, fun a _ ha => f8 a ha⟩
    have hy8 := (hy.but K8 (Nat.le_refl _) (.inl (by omega))).wide K8.1
    have l48 : Low s4.next s4 s8 := l5.trans (l8.weak l5.2.1)
    have r8 := R8.row (n := 19) rfl
    have r8' := (A4.low l48 (by omega)).row (n := 19) rfl
    have w8 := (w4.low l48 (Nat.le_refl _)).wide l48.2.1
    refine W_seq (W_opsM (Wo_run (l := [_, _, _, _, _]) (by simp only [sims, rI, rN, k3, r8, r8']; rfl) (Wo_gt (by simp only [sims, rI, rN]) (Wo_call hC.tithingref26_SameCalls.prim (args := [.agg ⟨c.cells y⟩, .agg ⟨c.cells w⟩]) (by simp only [sims, rI, rN]) ((SameCalls_run hC.tithingref26_SameCalls c hy8.1 w8).mono ?_)))))
    rintro _ s9 ⟨rfl, l9⟩
    refine Wo_all (by simp only [sims, rI, rN]; rfl) ?_
    exact W_else (by simp only [sims, rI, rN]) (W_skip ⟨rfl, l48.trans (l9.weak l48.2.1)⟩)
  rintro _ fr6 s6 ⟨rfl, l6⟩ hk
  show W E _ fr6 s6 _
  have m2 := (hk 2 (by decide)).trans k2
  have m3 := (hk 3 (by decide)).trans k3
  have m4 := (hk 4 (by decide)).trans k4
  clear hk k2 k3 k4 fr5
  have C6 := C4.low l6 (by omega)
  have w6' := (w4'.low l6 (Nat.le_refl _)).wide l6.2.1
  have u6 := (u4.low l6 (Nat.le_refl _)).wide l6.2.1
  have v6 := (v4.low l6 (Nat.le_refl _)).wide l6.2.1
  have hs6 : s.next + 2 ≤ s6.next := by have := l6.2.1; omega
  clear A4 C4 w4 w4' u4 v4 l6 hs4
  refine W_seq (W.cut (P := fun e fr' s' => e = .normal ∧ Low s6.next s6 s') ?_ rfl ?_)
  · have r1 : s6.row ⟨s.next + 1, 0, none⟩ 5 = some (r.cells w' u) := C6.row rfl
    refine W_seq (W_opsM (Wo_run (by simp only [sims, rI, rN, m4, r1]; rfl) (Wo_call hC.client_PutReply.prim (args := [.agg ⟨r.cells w' u⟩]) (by simp only [sims, rI, rN]) ((PutReply_one hC hC.client_PutReply w6' u6 hl').mono ?_))))
    rintro _ s7 ⟨l7, x, rfl, x7⟩
    by_cases ho : r.ok d' its
    case neg =>
      rw [show putRX r d' its = 2 from if_neg ho]
      refine Wo_all (by simp only [sims, rI, rN, nth0, nth1]; rfl) ?_
      show W E _ _ s7 _
      refine W_seq (W_region (by simp only [sims, rI, rN]; rfl) ?_)
      exact W_else (by simp only [sims, rI, rN]) (W_skip ⟨rfl, l7⟩)
    rw [show putRX r d' its = 0 from if_pos ho]
    rw [show putRM r d' its = r.bytes d' its from if_pos ho] at x7
    refine Wo_all (by simp only [sims, rI, rN, nth0, nth1]; rfl) ?_
    show W E _ _ s7 _
    obtain ⟨gE, gY, gD, gI⟩ := gr_fwd ho
    refine W_seq (W_region (by simp only [sims, rI, rN]; rfl) ?_)
    refine W_then (by simp only [sims, rI, rN]) ?_
    have l8 : Low s7.next s7 (s7.skip 8) := (Low.self s7).skip 8
    have hn8 := next_skip s7 8
    refine W_seq (W_opsM (Wo_run (by simp only [sims, rI, rN]; rfl) (Wo_call hC.client_GetReply.prim (by simp only [sims, rI, rN]) ((GetReply_one hC hC.client_GetReply ((x7.low l8 (Nat.le_refl _)).wide l8.2.1) (bytesR_small hl' ho)).mono ?_))))
    rintro _ s9 ⟨l89, y, z, rfl, hy, hz⟩
    rw [gY, gE]
    rw [gD] at hy
    rw [gI] at hz
    refine Wo_run (l := [_, _, _]) (by simp only [sims, rI, rN, nth0, nth1]; rfl) ?_
    have n9 := l89.2.1
    refine keep_agg (cs := r.cells y z) (s0 := s7) rfl rfl (by simp only [sims, rI, rN]; try rfl) (l8.trans (l89.weak l8.2.1)) (Nat.le_add_right _ _) (by omega) (by decide) fun s10 R10 l10 n10 f10 => Wo_all (by simp only [sims, rI, rN]; rfl) ?_
    have K10 : But (s7.next + 5) s9 s10 := ⟨by omega, fun a _ ha => f10 a ha⟩
    have hy10 := (hy.but K10 (Nat.le_refl _) (.inl (by omega))).wide K10.1
    have hz10 := (hz.but K10 (Nat.le_refl _) (.inl (by omega))).wide K10.1
    have l610 : Low s6.next s6 s10 := l7.trans (l10.weak l7.2.1)
    have r10 := R10.row (n := 5) rfl
    have r10' := (C6.low l610 (by omega)).row (n := 5) rfl
    have w10 := (w6'.low l610 (Nat.le_refl _)).wide l610.2.1
    have u10 := (u6.low l610 (Nat.le_refl _)).wide l610.2.1
    have hi : its.length ≤ 100000 := by have := (longR_false hl').2.2.1; omega
    refine W_seq (W_opsM (Wo_run (l := [_, _, _, _, _]) (by simp only [sims, rI, rN, m4, r10, r10']; rfl) (Wo_gt (by simp only [sims, rI, rN]) (Wo_call hC.tithingref25_Same.prim (args := [.agg ⟨r.cells y z⟩, .agg ⟨r.cells w' u⟩]) (by simp only [sims, rI, rN]) ((Same_run hC hC.tithingref25_Same r hi hy10.1 hz10.1 w10 u10).mono ?_)))))
    rintro _ s11 ⟨rfl, l11⟩
    refine Wo_all (by simp only [sims, rI, rN]; rfl) ?_
    exact W_else (by simp only [sims, rI, rN]) (W_skip ⟨rfl, l610.trans (l11.weak l610.2.1)⟩)
  rintro _ fr7 s7 ⟨rfl, l7⟩ hk
  show W E _ fr7 s7 _
  have k2 := (hk 2 (by decide)).trans m2
  clear hk
  have v7 := (v6.low l7 (Nat.le_refl _)).wide l7.2.1
  clear l7 v6 u6 w6' C6 m2 m3 m4
  clear hs6
  refine W_seq (W.cut (P := fun e fr' s' => e = .normal ∧ Low s7.next s7 s') ?_ rfl ?_)
  · have l8 : Low s7.next s7 (s7.skip 8) := (Low.self s7).skip 8
    have hn8 := next_skip s7 8
    refine W_seq (W_opsM (Wo_run (by simp only [sims, rI, rN, k2]; rfl) (Wo_call hC.client_GetCall.prim (by simp only [sims, rI, rN, k2]) ((GetCall_one hC hC.client_GetCall ((v7.low l8 (Nat.le_refl _)).wide l8.2.1) hll).mono ?_))))
    rintro _ s9 ⟨l89, y, rfl, hy⟩
    refine Wo_run (l := [_, _, _]) (by simp only [sims, rI, rN, nth0, nth1]; rfl) ?_
    have n9 := l89.2.1
    refine keep_call (c := gcC l) (w := y) (s0 := s7) rfl (by simp only [sims, rI, rN]; try rfl) rfl (l8.trans (l89.weak l8.2.1)) (Nat.le_add_right _ _) (by omega) (by decide) fun s10 R10 l10 n10 f10 => Wo_all (by simp only [sims, rI, rN]; rfl) ?_
    have K10 : But (s7.next + 5) s9 s10 := ⟨by omega, fun a _ ha => f10 a ha⟩
    have hy10 := ((hy.but K10 (Nat.le_refl _) (.inl (by omega))).wide K10.1).1
    have v10 := (v7.low l10 (Nat.le_refl _)).wide l10.2.1
    show W E _ _ s10 _
    by_cases hE : gcE l = 0
    case neg =>
      have dE : decide (gcE l = 0) = false := decide_eq_false hE
      refine W_seq (W_region (by simp only [sims, rI, rN, dE]; rfl) ?_)
      exact W_else (by simp only [sims, rI, rN]) (W_skip ⟨rfl, l10⟩)
    have dE : decide (gcE l = 0) = true := decide_eq_true hE
    obtain ⟨ho, hb⟩ := gc_bwd hE
    refine W_seq (W_region (by simp only [sims, rI, rN, dE]; rfl) ?_)
    refine W_then (by simp only [sims, rI, rN]) ?_
    have r10 := R10.row (n := 19) rfl
    refine W_seq (W_opsM (Wo_run (by simp only [sims, rI, rN, r10]; rfl) (Wo_call hC.client_PutCall.prim (args := [.agg ⟨(gcC l).cells y⟩]) (by simp only [sims, rI, rN]) ((PutCall_one hC hC.client_PutCall hy10 (ok_long ho)).mono ?_))))
    rintro _ s11 ⟨l11, x, rfl, x11⟩
    rw [show putX (gcC l) (gcD l) = 0 from if_pos ho]
    rw [show putM (gcC l) (gcD l) = (gcC l).bytes (gcD l) from if_pos ho, hb] at x11
    refine Wo_all (by simp only [sims, rI, rN, nth0, nth1]; rfl) ?_
    have v11 := (v10.low l11 (Nat.le_refl _)).wide l11.2.1
    obtain ⟨px, nx, cx, rfl, hx⟩ := x11.parts
    refine W_seq (W_region (by simp only [sims, rI, rN, k2, x11.elems, v11.elems, optByte_of]; rfl) ?_)
    exact W_else (by simp only [sims, rI, rN]) (W_skip ⟨rfl, l10.trans (l11.weak l10.2.1)⟩)
  rintro _ fr8 s8 ⟨rfl, l8⟩ hk
  show W E _ fr8 s8 _
  have m2 := (hk 2 (by decide)).trans k2
  clear hk
  have v8 := (v7.low l8 (Nat.le_refl _)).wide l8.2.1
  clear l8 v7 k2
  have hl2000 : l.length ≤ 2000 := by simp at hl2; omega
  refine W_seq (W.cut (P := fun e fr' s' => e = .normal) ?_ rfl ?_)
  · have l9 : Low s8.next s8 (s8.skip 8) := (Low.self s8).skip 8
    have hn9 := next_skip s8 8
    refine W_seq (W_opsM (Wo_run (by simp only [sims, rI, rN, m2]; rfl) (Wo_call hC.client_GetReply.prim (by simp only [sims, rI, rN, m2]) ((GetReply_one hC hC.client_GetReply ((v8.low l9 (Nat.le_refl _)).wide l9.2.1) hll).mono ?_))))
    rintro _ s10 ⟨l910, y, z, rfl, hy, hz⟩
    refine Wo_run (l := [_, _, _]) (by simp only [sims, rI, rN, nth0, nth1]; rfl) ?_
    have n10 := l910.2.1
    refine keep_agg (cs := (grY l).cells y z) (s0 := s8) rfl rfl (by simp only [sims, rI, rN]; try rfl) (l9.trans (l910.weak l9.2.1)) (Nat.le_add_right _ _) (by omega) (by decide) fun s11 R11 l11 n11 f11 => Wo_all (by simp only [sims, rI, rN]; rfl) ?_
    have K11 : But (s8.next + 5) s10 s11 := ⟨by omega, fun a _ ha => f11 a ha⟩
    have hy11 := ((hy.but K11 (Nat.le_refl _) (.inl (by omega))).wide K11.1).1
    have hz11 := ((hz.but K11 (Nat.le_refl _) (.inl (by omega))).wide K11.1).1
    have v11 := (v8.low l11 (Nat.le_refl _)).wide l11.2.1
    show W E _ _ s11 _
    by_cases hE : grE l = 0
    case neg =>
      have dE : decide (grE l = 0) = false := decide_eq_false hE
      refine W_seq (W_region (by simp only [sims, rI, rN, dE]; rfl) ?_)
      exact W_else (by simp only [sims, rI, rN]) (W_skip rfl)
    have dE : decide (grE l = 0) = true := decide_eq_true hE
    obtain ⟨ho, hb⟩ := gr_bwd hE
    refine W_seq (W_region (by simp only [sims, rI, rN, dE]; rfl) ?_)
    refine W_then (by simp only [sims, rI, rN]) ?_
    have r11 := R11.row (n := 5) rfl
    refine W_seq (W_opsM (Wo_run (by simp only [sims, rI, rN, r11]; rfl) (Wo_call hC.client_PutReply.prim (args := [.agg ⟨(grY l).cells y z⟩]) (by simp only [sims, rI, rN]) ((PutReply_one hC hC.client_PutReply hy11 hz11 (okR_long ho (by rw [hb]; exact hl2000))).mono ?_))))
    rintro _ s12 ⟨l12, x, rfl, x12⟩
    rw [show putRX (grY l) (grD l) (grI l) = 0 from if_pos ho]
    rw [show putRM (grY l) (grD l) (grI l) = (grY l).bytes (grD l) (grI l) from if_pos ho, hb] at x12
    refine Wo_all (by simp only [sims, rI, rN, nth0, nth1]; rfl) ?_
    have v12 := (v11.low l12 (Nat.le_refl _)).wide l12.2.1
    obtain ⟨px, nx, cx, rfl, hx⟩ := x12.parts
    refine W_seq (W_region (by simp only [sims, rI, rN, m2, x12.elems, v12.elems, optByte_of]; rfl) ?_)
    exact W_else (by simp only [sims, rI, rN]) (W_skip rfl)
  rintro _ fr9 s9 rfl hk
  show W E _ fr9 s9 _
  refine W_seq (W_opsM (Wo_all (by simp only [sims, rI, rN, pc_some hF, hp]; rfl) ?_))
  exact W_ret ⟨rfl, _, res_tmp res_nil, by simp only [sims, rI, rN, tupled]⟩
end
end
end Go.Ev
