/-
  Windows on lines; how the program's parser gives up; its header.
-/
import Derived.Test.YtoinadgkjnbejaaDoorPgBody
set_option linter.unusedVariables false
set_option linter.unusedSimpArgs false
namespace Go.Ev
noncomputable section
open Go.Pg
structure Win (t : St) (lo hi : Nat) (p : Option Addr) (n c : Nat) (xs : List Ln) : Prop where
  m : Mid t lo hi 1 (.slice p n c) (xs.map strOf)
  cap : c < open_
  nc : n ≤ c
def subP (p : Option Addr) (c l : Nat) : Option Addr := cnd (Nat.beq c l) p (addO p (l * 1))
theorem beq_ne {a b : Nat} (h : a ≠ b) : Nat.beq a b = false := by
  cases e : Nat.beq a b with
  | false => rfl
  | true => rw [Nat.beq_eq] at e; exact absurd e h
theorem slice_ex {t : St} {p : Option Addr} {n c l k : Nat} (hc : c < open_) (hlk : l ≤ k) (hkc : k ≤ c) : sliceOp t 1 (.slice p n c) (some (.int .i64 (l : Nat))) (some (.int .i64 (k : Nat))) none = some (.slice (subP p c l) (k - l) (c - l)) := by
  show cnd (Nat.beq c open_) _ (sliceExact 1 p n c _ _ _) = _
  rw [beq_ne (by omega), cnd_false]
  show ob (bound none c c) (fun m => ob (bound (some (.int .i64 (k : Nat))) n m) fun h => om (bound (some (.int .i64 (l : Nat))) 0 h) fun l => Value.slice (cnd (Nat.beq m l) p (addO p (l * 1))) (h - l) (m - l)) = _
  rw [bound_end, ob_some, bound_num hkc, ob_some, bound_num hlk, om_some]; rfl
theorem slice_from {t : St} {p : Option Addr} {n c l : Nat} (hc : c < open_) (hl : l ≤ n) (hn : n ≤ c) : sliceOp t 1 (.slice p n c) (some (.int .i64 (l : Nat))) none none = some (.slice (subP p c l) (n - l) (c - l)) := by
  show cnd (Nat.beq c open_) _ (sliceExact 1 p n c _ _ _) = _
  rw [beq_ne (by omega), cnd_false]
  show ob (bound none c c) (fun m => ob (bound none n m) fun h => om (bound (some (.int .i64 (l : Nat))) 0 h) fun l => Value.slice (cnd (Nat.beq m l) p (addO p (l * 1))) (h - l) (m - l)) = _
  rw [bound_end, ob_some, bound_end, ob_some, bound_num hl, om_some]; rfl
theorem slice_to {t : St} {p : Option Addr} {n c k : Nat} (hc : c < open_) (hkc : k ≤ c) : sliceOp t 1 (.slice p n c) none (some (.int .i64 (k : Nat))) none = some (.slice (subP p c 0) k c) := by
  show cnd (Nat.beq c open_) _ (sliceExact 1 p n c _ _ _) = _
  rw [beq_ne (by omega), cnd_false]
  show ob (bound none c c) (fun m => ob (bound (some (.int .i64 (k : Nat))) n m) fun h => om (bound none 0 h) fun l => Value.slice (cnd (Nat.beq m l) p (addO p (l * 1))) (h - l) (m - l)) = _
  rw [bound_end, ob_some, bound_num hkc, ob_some, bound_end, om_some]; rfl
theorem again_slice {fr : Fr} {t : St} {tt size : Nat} {x : Arg} {lo hi : Option Arg} {v : Value} {l : List (Option Nat × Cop × Option (Option Nat × Bool))} (h : sliceOp t size (x.ev fr) (evO fr lo) (evO fr hi) none = some v) (ht : fr.get tt = some v) (hs : same v v = true) (k : againOk fr t l = true) : againOk fr t ((some tt, .sliceV size x lo hi none, none) :: l) = true :=
  again_cons (v := v) (s' := t) (by
    show om (sliceOp t size (x.ev fr) (evO fr lo) (evO fr hi) none) (fun v => (v, t)) = _
    rw [h]; rfl) ht hs k
theorem again_guard {fr : Fr} {t : St} {y : Option Nat} {op : Cop} {g : Option Nat × Bool} {l : List (Option Nat × Cop × Option (Option Nat × Bool))} (hw : wanted g fr = true) (k : againOk fr t ((y, op, none) :: l) = true) : againOk fr t ((y, op, some g) :: l) = true := by
  show cnd (wanted g fr) (Option.rec false (fun r => Option.rec false (fun z => cnd (Ev.same r.1 (orUndef (fr.get z))) (againOk fr t l) false) y) ((cop op).run fr t 0)) (againOk fr t l) = true
  rw [hw]
  exact k
section
variable {E : Env} {f : FuncId} {s t u : St} {lo hi : Nat} {p : Option Addr} {n c : Nat} {xs : List Ln}
theorem Wo_gtA {fr : Fr} {Q : Fr → St → Prop} {b ix : Nat} {d : Option Nat} {op : Cop} {tt : Option Nat} {x : Bool} {ops : List COper} {y : Option Nat × Cop × Option (Option Nat × Bool)} {l : List (Option Nat × Cop × Option (Option Nat × Bool))} (hw : wanted (tt, x) fr = true) (h : Wo E b (⟨d, op, none, ix, y :: l⟩ :: ops) fr s Q) : Wo E b (⟨d, op, some (tt, x), ix, y :: l⟩ :: ops) fr s Q := by
  obtain ⟨m, f1, s1, h1, h2⟩ := h
  refine ⟨m, f1, s1, ?_, h2⟩
  show (Bool.rec _ _ (wanted (tt, x) fr) : RF) = _
  rw [hw]
  exact h1
theorem Wo_gfA {fr : Fr} {Q : Fr → St → Prop} {b ix : Nat} {d : Option Nat} {op : Cop} {tt : Option Nat} {x : Bool} {ops : List COper} {y : Option Nat × Cop × Option (Option Nat × Bool)} {l : List (Option Nat × Cop × Option (Option Nat × Bool))} (hw : wanted (tt, x) fr = false) (h : Wo E b ops (putD fr d undef) s Q) : Wo E b (⟨d, op, some (tt, x), ix, y :: l⟩ :: ops) fr s Q := by
  obtain ⟨m, f1, s1, h1, h2⟩ := h
  refine ⟨m, f1, s1, ?_, h2⟩
  show (Bool.rec _ _ (wanted (tt, x) fr) : RF) = _
  rw [hw]
  exact h1
theorem Win.len (h : Win t lo hi p n c xs) : n = xs.length := by
  obtain ⟨p', n', c', e, hn⟩ := h.m.1.parts
  cases e
  rw [List.length_map] at hn
  omega
theorem Win.low {lo' : Nat} (h : Win s lo hi p n c xs) (k : Low lo' s t) (hh : hi ≤ lo') : Win t lo hi p n c xs := ⟨h.m.low k hh, h.cap, h.nc⟩
theorem Win.but {a : Nat} (h : Win s lo hi p n c xs) (k : But a s t) (hh : hi ≤ s.next) (ha : a < lo ∨ hi ≤ a) : Win t lo hi p n c xs := ⟨h.m.but k hh ha, h.cap, h.nc⟩
theorem Win.keep (h : Win s lo hi p n c xs) (k : ∀ c, lo ≤ c → c < hi → t.get c = s.get c) : Win t lo hi p n c xs := by
  refine ⟨?_, h.cap, h.nc⟩
  obtain ⟨m1, m2⟩ := h.m
  refine ⟨?_, m2⟩
  generalize xs.map strOf = zs at m1
  cases m1 with
  | nil => exact .nil
  | mk hb hg hl hc =>
    have := m2 _ _ _ rfl
    exact .mk hb (by rw [k _ this hb]; exact hg) hl hc
theorem Win.cut (h : Win t lo hi p n c xs) {l k : Nat} (hlk : l ≤ k) (hkn : k ≤ n) : Win t lo hi (subP p c l) (k - l) (c - l) ((xs.drop l).take (k - l)) := by
  have hnc := h.nc
  have hc := h.cap
  obtain ⟨v, e, hS⟩ := h.m.1.slice (by decide) hlk hkn
  rw [slice_ex hc hlk (by omega)] at e
  have e := Option.some.inj e
  subst e
  refine ⟨⟨?_, fun q n' c' e => ?_⟩, by omega, by omega⟩
  · rw [Nat.mul_one, Nat.mul_one, ← List.map_drop, ← List.map_take] at hS
    exact hS
  · have hb := fun a e => h.m.2 a n c e
    cases p with
    | none =>
      unfold subP at e
      cases hq : Nat.beq c l <;> rw [hq] at e <;> cases e
    | some a =>
      have := hb a rfl
      unfold subP at e
      cases hq : Nat.beq c l with
      | true => rw [hq] at e; cases e; exact this
      | false =>
        rw [hq] at e
        have e : Value.slice (some (a.add (l * 1))) (k - l) (c - l) = .slice (some q) n' c' := e
        cases e
        rw [add_block]
        exact this
theorem Win.texts (h : Win t lo hi p n c xs) : Texts t hi (.slice p n c) xs := h.m.1
theorem Win.same (h : Win t lo hi p n c xs) : same (.slice p n c) (.slice p n c) = true := same_slice h.m.1.spot
theorem Win.sub_same (h : Win t lo hi p n c xs) (l n' c' : Nat) : Ev.same (.slice (subP p c l) n' c') (.slice (subP p c l) n' c') = true := by
  refine same_slice fun a e => ?_
  have hs := h.m.1.spot
  unfold subP at e
  cases p with
  | none => cases hq : Nat.beq c l <;> rw [hq] at e <;> cases e
  | some q =>
    have := hs q rfl
    cases hq : Nat.beq c l with
    | true => rw [hq] at e; cases e; exact this
    | false =>
      rw [hq] at e
      have e : some (q.add (l * 1)) = some a := e
      cases e
      unfold Addr.add
      split
      · exact this
      · rfl
def ProgPost (s : St) (l : Ln) (r : Value) (t : St) : Prop := Low s.next s t ∧ ∃ cs, cs.length = 5 ∧ r = .tuple ⟨[.agg ⟨cs⟩, .bool (docR l).isSome]⟩ ∧ ∀ dd, docR l = some dd → DocM t s.next t.next cs dd
theorem progFail {fr : Fr} {d : Nat} {l : Ln} {cs : List Value} (x : Nat) (hx2 : x ≠ 2) (hx3 : x ≠ 3) (L : Low s.next s t) (hd : s.next ≤ d) (R : Row t d cs) (hc : cs.length = 5) (h2 : fr.get 2 = some (ptr d 0)) (hn : docR l = none) {Q : Ex → Fr → St → Prop}
    (hQ : ∀ fr' t', (isExit .ret = false ∧ ∃ m, optL (oneRes fr' t') [.cell 2 true 5, .tmp 3] = some m ∧ ProgPost s l (tupled m) t') → Q .ret fr' t') :
    W E (.seq (.region 0 [⟨some x, .loadN 5 (.t 2), none, 0, []⟩, ⟨none, .store 5 (.t 2) (.t x), none, 1, []⟩, ⟨some 3, .mov (.c (.bool false)), none, 2, []⟩]) .ret) fr t Q := by
  obtain ⟨t2, p2, R2, n2, f2⟩ := R.put (o := 0) (vs := cs) (by omega)
  have hsp : splice cs 0 cs = cs := by
    rw [splice_eq, List.take_zero, List.nil_append, List.drop_eq_nil_of_le (by omega), List.append_nil]
  rw [hsp] at R2
  have hx2' : ¬ 2 = x := fun e => hx2 e.symm
  have hx3' : ¬ 3 = x := fun e => hx3 e.symm
  have hrow : t.row ⟨d, 0, none⟩ 5 = some cs := R.row hc.symm
  have hst : storable (.agg ⟨cs⟩) = true := rfl
  have hvc : vcells (.agg ⟨cs⟩) = cs := rfl
  have hl5 : Nat.beq (lenL cs) 5 = true := by rw [lenL_eq, hc]; rfl
  refine W_seq (W_region (by simp only [simq, Int.reduceEq, Nat.reduceEqDiff, h2, hx2, hx2', hx3, hx3', hrow, p2, hst, hvc, hl5]; rfl) ?_)
  refine W_ret (hQ _ _ ⟨rfl, _, res_cell (by simp only [simq, Int.reduceEq, Nat.reduceEqDiff, h2, hx2, hx2']) (R2.row hc.symm) (res_tmp res_nil), ?_, cs, hc, ?_, ?_⟩)
  · exact L.trans (But.low (a := d) (lo := s.next) (but_put n2 f2) hd L.2.1)
  · rw [hn]; simp only [simq, Int.reduceEq, Nat.reduceEqDiff, tupled]; rfl
  · intro dd hdd; rw [hn] at hdd; cases hdd
structure HSt (s : St) (d H : Nat) (hp : Option Addr) (hn hc : Nat) (hdr : List Ln) (p : Option Addr) (n c : Nat) (rest : List Ln) (t : St) (tit : Ln) : Prop where
  L : Low s.next s t
  row : Row t d [strOf tit, .slice hp hn hc, .slice none 0 0, .slice none 0 0, .slice none 0 0]
  wh : Win t (d + 1) H hp hn hc hdr
  wr : Win t (d + 1) H p n c rest
  le : H ≤ t.next
set_option maxHeartbeats 8000000 in
theorem head_loop (hC : Codes E) (P : Prims E) (G : Gl s) {d H hn hc : Nat} {hp : Option Addr} {hdr rest : List Ln} {l : Ln} (hd : s.next ≤ d) (hdH : d < H) (hsh : ∀ x ∈ hdr, x.length ≤ 100000) (hfew : hdr.length ≤ 100000) {Q : Ex → Fr → St → Prop}
    (hret : ∀ fr' t', (isExit .ret = false ∧ ∃ m, optL (oneRes fr' t') [.cell 2 true 5, .tmp 3] = some m ∧ ProgPost s l (tupled m) t') → Q .ret fr' t')
    (hbad : headP hdr ⟨[], 0, [], 0⟩ = none → docR l = none)
    (hq : ∀ fr t y, headP hdr ⟨[], 0, [], 0⟩ = some y → HSt s d H hp hn hc hdr p n c rest t y.title → fr.get 2 = some (ptr d 0) → fr.get 4 = some (.slice p n c) → fr.get 7 = some (strOf y.told) → fr.get 8 = some (.int .i64 (y.titles : Nat)) → fr.get 9 = some (.int .i64 (y.counts : Nat)) → Q (.exit 0) fr t)
    {fr : Fr} {t : St} (A : HSt s d H hp hn hc hdr p n c rest t []) (k2 : fr.get 2 = some (ptr d 0)) (k4 : fr.get 4 = some (.slice p n c)) (k7 : fr.get 7 = some (strOf [])) (k8 : fr.get 8 = some (.int .i64 (0 : Nat))) (k9 : fr.get 9 = some (.int .i64 (0 : Nat)))
    (k67 : fr.get 67 = some (.slice hp hn hc)) (k68 : fr.get 68 = some (.int .i64 (hn : Nat))) (k69 : fr.get 69 = some (.int .i64 (0 : Nat))) : W E (.loop Code.page_parse_l0) fr t Q := by
  have hlen := A.wh.len
  subst hlen
  unfold Code.page_parse_l0
  refine W_for (n := hdr.length) (fun i fr t => ∃ y : HS, HSt s d H hp hdr.length hc hdr p n c rest t y.title ∧ headP hdr ⟨[], 0, [], 0⟩ = headP (hdr.drop i) y ∧ y.titles ≤ i ∧ y.counts ≤ i ∧ fr.get 2 = some (ptr d 0) ∧ fr.get 4 = some (.slice p n c) ∧ fr.get 7 = some (strOf y.told) ∧ fr.get 8 = some (.int .i64 (y.titles : Nat)) ∧ fr.get 9 = some (.int .i64 (y.counts : Nat)) ∧ fr.get 67 = some (.slice hp hdr.length hc)) (by omega) (by decide) ?_ ?_ ?_ 0 (Nat.zero_le _) ⟨⟨[], 0, [], 0⟩, A, rfl, Nat.le_refl _, Nat.le_refl _, k2, k4, k7, k8, k9, k67⟩ k69 k68
  · rintro i fr t x v hx ⟨y, e0, e1, e2, e3, e4, e5, e6, e7, e8, e9⟩
    refine ⟨y, e0, e1, e2, e3, ?_, ?_, ?_, ?_, ?_, ?_⟩ <;> rcases hx with rfl | rfl | rfl <;> simp only [simq, Int.reduceEq, Nat.reduceEqDiff, e4, e5, e6, e7, e8, e9]
  · rintro i fr t hlt ⟨y, A, hh, ht, hcn, k2, k4, k7, k8, k9, k67⟩ h69 h68
    obtain ⟨a, rfl, hcell⟩ := A.wh.m.1.cell (i := i) (by rw [List.length_map]; exact hlt)
    rw [List.getElem?_map, List.getElem?_eq_getElem hlt, Option.map_some] at hcell
    have hbl : Nat.blt i hdr.length = true := by rw [Nat.blt_eq]; exact hlt
    have hmem := hsh _ (List.getElem_mem hlt)
    rw [List.drop_eq_getElem_cons hlt, headP] at hh
    generalize hX : hdr[i] = X at *
    have hL := A.L.2.1
    have hle := A.le
    refine W_seq (W_region (by simp only [simq, Int.reduceEq, Nat.reduceEqDiff, k67, h69, hbl, hcell]; rfl) ?_)
    refine W_seq (W_opsM (Wo_run (by simp only [simq, Int.reduceEq, Nat.reduceEqDiff]; rfl) (Wo_call hC.page_comment.prim (args := [strOf X]) (by simp only [simq, Int.reduceEq, Nat.reduceEqDiff]; try rfl) ((comment_run hC P hC.page_comment (G.next A.L) X hmem).mono ?_))))
    rintro _ t2 ⟨rfl, l2⟩
    refine Wo_all (by simp only [simq, Int.reduceEq, Nat.reduceEqDiff, nth0, nth1]; rfl) ?_
    show W E _ _ _ _
    refine W_seq (W_region (by simp only [simq, Int.reduceEq, Nat.reduceEqDiff]; rfl) ?_)
    have hl2 := l2.2.1
    have L2 : Low s.next s t2 := A.L.trans (l2.weak hL)
    have A2 : HSt s d H (some a) hdr.length hc hdr p n c rest t2 y.title := ⟨L2, A.row.low l2 (by omega), A.wh.low l2 hle, A.wr.low l2 hle, by omega⟩
    have w1 := word_title X
    have w2 := word_pages X
    have w0 := word_plain X
    refine W_block ?_
    by_cases z1 : (kd X).1 = 1
    · rw [decide_eq_true z1] at w1
      rw [if_pos z1] at hh
      have e8 : wr .i64 ((y.titles : Int) + 1) = ((y.titles + 1 : Nat) : Int) := by rw [wr_i64 (by omega) (by omega)]; omega
      obtain ⟨t3, p3, R3, n3, f3⟩ := A2.row.put (o := 0) (vs := [strOf (kd X).2]) (by simp)
      have B3 : But d t2 t3 := but_put n3 f3
      have hy : storable (strOf (kd X).2) = true ∧ vcells (strOf (kd X).2) = [strOf (kd X).2] ∧ Nat.beq (lenL [strOf (kd X).2]) 1 = true := ⟨rfl, rfl, rfl⟩
      refine W_seq (W_region (by simp only [simq, Int.reduceEq, Nat.reduceEqDiff, w1]; rfl) (W_then (by simp only [simq, Int.reduceEq, Nat.reduceEqDiff]) (W_seq (W_region (by simp only [simq, Int.reduceEq, Nat.reduceEqDiff, k2, hy.1, hy.2.1, hy.2.2, p3]; rfl) ?_))))
      refine W_region (by simp only [simq, Int.reduceEq, Nat.reduceEqDiff, k8, e8]; rfl) ⟨⟨⟨(kd X).2, y.titles + 1, y.told, y.counts⟩, ⟨L2.trans (But.low B3 hd (by omega)), R3, A2.wh.but B3 (by omega) (.inl (by omega)), A2.wr.but B3 (by omega) (.inl (by omega)), by omega⟩, hh, by simp only; omega, by simp only; omega, by simp only [simq, Int.reduceEq, Nat.reduceEqDiff, k2], by simp only [simq, Int.reduceEq, Nat.reduceEqDiff, k4], by simp only [simq, Int.reduceEq, Nat.reduceEqDiff, k7], by simp only [simq, Int.reduceEq, Nat.reduceEqDiff], by simp only [simq, Int.reduceEq, Nat.reduceEqDiff, k9], by simp only [simq, Int.reduceEq, Nat.reduceEqDiff, k67]⟩, by simp only [simq, Int.reduceEq, Nat.reduceEqDiff, h69], by simp only [simq, Int.reduceEq, Nat.reduceEqDiff, h68]⟩
    rw [decide_eq_false z1] at w1
    rw [if_neg z1] at hh
    refine W_seq (W_region (by simp only [simq, Int.reduceEq, Nat.reduceEqDiff, w1]; rfl) (W_else (by simp only [simq, Int.reduceEq, Nat.reduceEqDiff]) ?_))
    by_cases z2 : (kd X).1 = 2
    · rw [decide_eq_true z2] at w2
      rw [if_pos z2] at hh
      have e9 : wr .i64 ((y.counts : Int) + 1) = ((y.counts + 1 : Nat) : Int) := by rw [wr_i64 (by omega) (by omega)]; omega
      refine W_seq (W_region (by simp only [simq, Int.reduceEq, Nat.reduceEqDiff, w2]; rfl) (W_then (by simp only [simq, Int.reduceEq, Nat.reduceEqDiff]) (W_seq (W_region (by simp only [simq, Int.reduceEq, Nat.reduceEqDiff]; rfl) ?_))))
      refine W_region (by simp only [simq, Int.reduceEq, Nat.reduceEqDiff, k9, e9]; rfl) ⟨⟨⟨y.title, y.titles, (kd X).2, y.counts + 1⟩, A2, hh, by simp only; omega, by simp only; omega, by simp only [simq, Int.reduceEq, Nat.reduceEqDiff, k2], by simp only [simq, Int.reduceEq, Nat.reduceEqDiff, k4], by simp only [simq, Int.reduceEq, Nat.reduceEqDiff], by simp only [simq, Int.reduceEq, Nat.reduceEqDiff, k8], by simp only [simq, Int.reduceEq, Nat.reduceEqDiff], by simp only [simq, Int.reduceEq, Nat.reduceEqDiff, k67]⟩, by simp only [simq, Int.reduceEq, Nat.reduceEqDiff, h69], by simp only [simq, Int.reduceEq, Nat.reduceEqDiff, h68]⟩
    rw [decide_eq_false z2] at w2
    rw [if_neg z2] at hh
    refine W_seq (W_region (by simp only [simq, Int.reduceEq, Nat.reduceEqDiff, w2]; rfl) (W_else (by simp only [simq, Int.reduceEq, Nat.reduceEqDiff]) ?_))
    by_cases z0 : (kd X).1 = 0
    · rw [decide_eq_true z0] at w0
      rw [if_pos z0] at hh
      exact W_seq (W_region (by simp only [simq, Int.reduceEq, Nat.reduceEqDiff, w0]; rfl) (W_then (by simp only [simq, Int.reduceEq, Nat.reduceEqDiff]) (W_skip ⟨⟨y, A2, hh, by omega, by omega, by simp only [simq, Int.reduceEq, Nat.reduceEqDiff, k2], by simp only [simq, Int.reduceEq, Nat.reduceEqDiff, k4], by simp only [simq, Int.reduceEq, Nat.reduceEqDiff, k7], by simp only [simq, Int.reduceEq, Nat.reduceEqDiff, k8], by simp only [simq, Int.reduceEq, Nat.reduceEqDiff, k9], by simp only [simq, Int.reduceEq, Nat.reduceEqDiff, k67]⟩, by simp only [simq, Int.reduceEq, Nat.reduceEqDiff, h69], by simp only [simq, Int.reduceEq, Nat.reduceEqDiff, h68]⟩)))
    · rw [decide_eq_false z0] at w0
      rw [if_neg z0] at hh
      exact W_seq (W_region (by simp only [simq, Int.reduceEq, Nat.reduceEqDiff, w0]; rfl) (W_else (by simp only [simq, Int.reduceEq, Nat.reduceEqDiff]) (progFail 79 (by decide) (by decide) L2 hd A2.row rfl (by simp only [simq, Int.reduceEq, Nat.reduceEqDiff, k2]) (hbad hh) hret)))
  · rintro fr t ⟨y, A, hh, ht, hcn, k2, k4, k7, k8, k9, k67⟩
    rw [List.drop_length, headP] at hh
    exact hq fr t y hh A k2 k4 k7 k8 k9
end
end
end Go.Ev
