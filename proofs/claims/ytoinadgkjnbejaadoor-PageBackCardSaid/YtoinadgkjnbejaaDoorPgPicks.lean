/-
  Pick, Reverse: of the program.
-/
import Derived.Test.YtoinadgkjnbejaaDoorPgPick
set_option linter.unusedVariables false
set_option linter.unusedSimpArgs false
namespace Go.Ev
noncomputable section
open Go.Pg
def IntsZ (s : St) (hi : Nat) (v : Value) (zs : List Int) : Prop := Sl s hi 1 v (zs.map (Value.int .i64))
section
variable {E : Env} {f : FuncId} {s t u : St}
theorem IndexFuncI_run (hf : Has E f Code.slices_IndexFunc_int_int) {hi : Nat} {v : Value} {l : List Int} {y : List Value} (hv : IntsZ s hi v l) (hhi : hi ≤ s.next) (hl : l.length ≤ 1000000) {g : FuncId} {P : Int → Bool} (hp : E.prim g = none) (hg : ∀ x ∈ l, ∀ t, Low s.next s t → Cv E g (Value.int .i64 x :: y) t fun v t' => v = .bool (P x) ∧ Low t.next t t') :
    Cv E f [v, .func (.func g) ⟨[]⟩ ⟨y⟩] s fun r t => Low s.next s t ∧ ∃ k : Int, r = .int .i64 k ∧ (0 ≤ k ↔ l.any P = true) := by
  obtain ⟨p, m, c, rfl, hm⟩ := hv.parts
  rw [List.length_map, Nat.mul_one] at hm
  subst hm
  refine Cv_of hf.code ?_
  have h0 : (Tr.ofList (.e : Fr) 0 [.slice p l.length c, .func (.func g) ⟨[]⟩ ⟨y⟩]).get 0 = some (.slice p l.length c) := rfl
  have h1 : (Tr.ofList (.e : Fr) 0 [.slice p l.length c, .func (.func g) ⟨[]⟩ ⟨y⟩]).get 1 = some (.func (.func g) ⟨[]⟩ ⟨y⟩) := rfl
  generalize (Tr.ofList (.e : Fr) 0 [.slice p l.length c, .func (.func g) ⟨[]⟩ ⟨y⟩]) = fr0 at h0 h1
  unfold Code.slices_IndexFunc_int_int
  refine W_seq (W_region (by simp only [simq, Int.reduceEq, Nat.reduceEqDiff]; rfl) ?_)
  refine W_seq (W_seq (W_region (by simp only [simq, Int.reduceEq, Nat.reduceEqDiff, h0]; rfl) ?_))
  refine W_block ?_
  unfold Code.slices_IndexFunc_int_int_l0
  refine W_for (n := l.length) (fun i fr t => Low s.next s t ∧ fr.get 0 = some (.slice p l.length c) ∧ fr.get 1 = some (.func (.func g) ⟨[]⟩ ⟨y⟩) ∧ (l.take i).any P = false) (by omega) (by decide) ?_ ?_ ?_ 0 (Nat.zero_le _) ⟨Low.self s, by simp only [simq, Int.reduceEq, Nat.reduceEqDiff, h0], by simp only [simq, Int.reduceEq, Nat.reduceEqDiff, h1], rfl⟩ (by simp only [simq, Int.reduceEq, Nat.reduceEqDiff]; rfl) (by simp only [simq, Int.reduceEq, Nat.reduceEqDiff]; rfl)
  · rintro i fr t x v hx ⟨e0, e1, e2, e3⟩
    refine ⟨e0, ?_, ?_, e3⟩ <;> rcases hx with rfl | rfl | rfl <;> simp only [simq, Int.reduceEq, Nat.reduceEqDiff, e1, e2]
  · rintro i fr t hlt ⟨Lt, e0, e1, e2⟩ h8 h7
    have hv' := hv.low Lt hhi
    obtain ⟨a, rfl, hcell⟩ := hv'.cell (i := i) (by rw [List.length_map]; exact hlt)
    rw [List.getElem?_map, List.getElem?_eq_getElem hlt, Option.map_some] at hcell
    have hb : Nat.blt i l.length = true := by rw [Nat.blt_eq]; exact hlt
    refine W_seq (W_region (by simp only [simq, Int.reduceEq, Nat.reduceEqDiff, h8]; rfl) ?_)
    refine W_seq (W_opsM (Wo_run (by simp only [simq, Int.reduceEq, Nat.reduceEqDiff, e0, e1, hb, hcell]; rfl) (Wo_callV (x := []) (y := y) (args := Value.int .i64 l[i] :: y) hp (by simp only [simq, Int.reduceEq, Nat.reduceEqDiff]; try rfl) (by simp only [simq, Int.reduceEq, Nat.reduceEqDiff]; try rfl) ((hg l[i] (List.getElem_mem hlt) t Lt).mono ?_))))
    rintro _ t2 ⟨rfl, l2⟩
    have L2 : Low s.next s t2 := Lt.trans (l2.weak Lt.2.1)
    refine Wo_nil ?_
    show W E _ _ _ _
    have htake : (l.take (i + 1)).any P = P l[i] := by
      rw [List.take_succ_eq_append_getElem hlt, List.any_append, e2]; simp
    refine W_ifb (q := P l[i]) (by simp only [simq, Int.reduceEq, Nat.reduceEqDiff]) (fun hq => ?_) (fun hq => W_skip ?_)
    · refine W_seq (W_region (by simp only [simq, Int.reduceEq, Nat.reduceEqDiff]; rfl) (W_ret ⟨rfl, _, res_tmp res_nil, L2, (i : Int), by simp only [simq, Int.reduceEq, Nat.reduceEqDiff, tupled], ?_⟩))
      constructor
      · intro _
        rw [List.any_eq_true]
        exact ⟨l[i], List.getElem_mem hlt, hq⟩
      · intro _; omega
    · exact ⟨⟨L2, by simp only [simq, Int.reduceEq, Nat.reduceEqDiff, e0], by simp only [simq, Int.reduceEq, Nat.reduceEqDiff, e1], by rw [htake, hq]⟩, by simp only [simq, Int.reduceEq, Nat.reduceEqDiff, h8], by simp only [simq, Int.reduceEq, Nat.reduceEqDiff, h7]⟩
  · rintro fr t ⟨Lt, e0, e1, e2⟩
    rw [List.take_length] at e2
    show W E _ _ _ _
    refine W_seq (W_region (by simp only [simq, Int.reduceEq, Nat.reduceEqDiff]; rfl) (W_ret ⟨rfl, _, res_tmp res_nil, Lt, -1, by simp only [simq, Int.reduceEq, Nat.reduceEqDiff, tupled], ?_⟩))
    rw [e2]; simp
theorem ContainsFuncI_run (hC : Codes E) (hf : Has E f Code.slices_ContainsFunc_int_int) {hi : Nat} {v : Value} {l : List Int} {y : List Value} (hv : IntsZ s hi v l) (hhi : hi ≤ s.next) (hl : l.length ≤ 1000000) {g : FuncId} {P : Int → Bool} (hp : E.prim g = none) (hg : ∀ x ∈ l, ∀ t, Low s.next s t → Cv E g (Value.int .i64 x :: y) t fun v t' => v = .bool (P x) ∧ Low t.next t t') :
    Cv E f [v, .func (.func g) ⟨[]⟩ ⟨y⟩] s fun r t => Low s.next s t ∧ r = .bool (l.any P) := by
  refine Cv_of hf.code ?_
  have h0 : (Tr.ofList (.e : Fr) 0 [v, .func (.func g) ⟨[]⟩ ⟨y⟩]).get 0 = some (v) := rfl
  have h1 : (Tr.ofList (.e : Fr) 0 [v, .func (.func g) ⟨[]⟩ ⟨y⟩]).get 1 = some (.func (.func g) ⟨[]⟩ ⟨y⟩) := rfl
  generalize (Tr.ofList (.e : Fr) 0 [v, .func (.func g) ⟨[]⟩ ⟨y⟩]) = fr0 at h0 h1
  unfold Code.slices_ContainsFunc_int_int
  refine W_seq (W_region (by simp only [simq, Int.reduceEq, Nat.reduceEqDiff]; rfl) ?_)
  first | refine W_seq (W_opsM (Wo_run (by simp only [simq, Int.reduceEq, Nat.reduceEqDiff, h0, h1]; rfl) (Wo_call hC.slices_IndexFunc_int_int.prim (by simp only [simq, Int.reduceEq, Nat.reduceEqDiff, h0, h1]; try rfl) ((IndexFuncI_run hC.slices_IndexFunc_int_int hv hhi hl hp hg).mono ?_)))) | refine W_seq (W_ops (Wo_run (by simp only [simq, Int.reduceEq, Nat.reduceEqDiff, h0, h1]; rfl) (Wo_call hC.slices_IndexFunc_int_int.prim (by simp only [simq, Int.reduceEq, Nat.reduceEqDiff, h0, h1]; try rfl) ((IndexFuncI_run hC.slices_IndexFunc_int_int hv hhi hl hp hg).mono ?_))))
  rintro _ t ⟨L, k, rfl, hk⟩
  refine Wo_all (by simp only [simq, Int.reduceEq, Nat.reduceEqDiff]; rfl) (W_ret ⟨rfl, _, res_tmp res_nil, L, ?_⟩)
  simp only [simq, Int.reduceEq, Nat.reduceEqDiff, tupled]
  congr 1
  cases h : l.any P with
  | true => rw [decide_eq_true_eq]; exact hk.2 h
  | false => rw [decide_eq_false_iff_not]; intro h2; rw [hk.1 h2] at h; cases h
def offN (n : Nat) (z : Int) : Bool := decide (z < 1) || decide ((n : Int) < z)
theorem Pick1_run (hf : Has E f Code.page_Pick_1) {r n c : Nat} {p : Option Addr} (hc : s.cell ⟨r, 3, none⟩ = some (.slice p n c)) (z : Int) : Cv E f [.int .i64 z, ptr r 0] s fun v t => v = .bool (offN n z) ∧ Low s.next s t := by
  refine Cv_of hf.code ?_
  have h0 : (Tr.ofList (.e : Fr) 0 [.int .i64 z, ptr r 0]).get 0 = some (.int .i64 z) := rfl
  have h1 : (Tr.ofList (.e : Fr) 0 [.int .i64 z, ptr r 0]).get 1 = some (ptr r 0) := rfl
  generalize (Tr.ofList (.e : Fr) 0 [.int .i64 z, ptr r 0]) = fr0 at h0 h1
  unfold Code.page_Pick_1
  refine W_seq (W_region (by simp only [simq, Int.reduceEq, Nat.reduceEqDiff]; rfl) ?_)
  cases d1 : decide (z < 1) with
  | true =>
    refine W_seq (W_region (by simp only [simq, Int.reduceEq, Nat.reduceEqDiff, h0, h1, hc, d1]; rfl) (W_ret ⟨rfl, _, res_tmp res_nil, ?_, Low.self s⟩))
    simp only [simq, Int.reduceEq, Nat.reduceEqDiff, tupled, offN, d1]; try rfl
  | false =>
    refine W_seq (W_region (by simp only [simq, Int.reduceEq, Nat.reduceEqDiff, h0, h1, hc, d1, Int.ofNat_eq_natCast]; rfl) (W_ret ⟨rfl, _, res_tmp res_nil, ?_, Low.self s⟩))
    simp only [simq, Int.reduceEq, Nat.reduceEqDiff, tupled, offN, d1]; try rfl
def pickOf (l : Ln) (zs : List Int) : List Value := match docR l with
  | none => [strOf [], .int .i64 3]
  | some d => if zs.any (offN d.pages.length) || decide (999 < zs.length) then [strOf [], .int .i64 2] else toldOf (pickD d (zs.map Int.toNat))
def backOf (l : Ln) : List Value := match docR l with
  | none => [strOf [], .int .i64 3]
  | some d => toldOf (pickD d ((List.range d.pages.length).map (d.pages.length - ·)))
theorem ht_cell {lo a i : Nat} (h : Low lo s t) (ha : a < lo) : t.cell ⟨a, i, none⟩ = s.cell ⟨a, i, none⟩ := by
  show ob (asCells (t.get a)) _ = ob (asCells (s.get a)) _
  rw [h.2.2 a ha]
theorem pagesLines_le {B : Nat} : ∀ (ps : List (List Ln)) (k : Nat), (∀ p ∈ ps, p.length ≤ B) → (pagesLines k ps).length ≤ ps.length * (B + 1)
  | [], k, _ => by simp [pagesLines]
  | p :: ps, k, h => by
    have h1 := pagesLines_le ps (k + 1) fun q hq => h q (List.mem_cons_of_mem _ hq)
    have h2 := h p (List.mem_cons_self ..)
    rw [pagesLines, List.length_cons, List.length_append, List.length_cons, Nat.succ_mul]
    omega
theorem pagesLines_mem {x : Ln} : ∀ (ps : List (List Ln)) (k : Nat), x ∈ pagesLines k ps → (∃ j, j ≤ k + ps.length ∧ x = wPage ++ dec j) ∨ ∃ p ∈ ps, x ∈ p
  | [], k, h => by simp [pagesLines] at h
  | p :: ps, k, h => by
    rw [pagesLines, List.mem_cons, List.mem_append] at h
    rcases h with h | h | h
    · exact .inl ⟨k + 1, by simp only [List.length_cons]; omega, h⟩
    · exact .inr ⟨p, List.mem_cons_self .., h⟩
    · rcases pagesLines_mem ps (k + 1) h with ⟨j, hj, e⟩ | ⟨q, hq, e⟩
      · exact .inl ⟨j, by simp only [List.length_cons]; omega, e⟩
      · exact .inr ⟨q, List.mem_cons_of_mem _ hq, e⟩
theorem headN_len {n : Nat} (x : Ln) (hn : n ≤ 1000) (hx : x.length ≤ 100000) : (headN n x).length ≤ 100000 := by
  unfold headN
  split
  · have := dec_len n
    rw [List.length_append]
    have : wPages.length = 9 := rfl
    omega
  · exact hx
theorem doc_short {l : Ln} {d : Doc} (h : docR l = some d) : l.length ≤ 20000 ∧ (docLines d).length ≤ 20000 ∧ ∀ x ∈ docLines d, x.length ≤ 20000 := by
  have hw := (doc_wf h).2
  unfold docR at h
  split at h
  · cases h
  · have e := parse_lines h
    have h1 := lns_len l
    have hs := lns_sh l
    rw [e] at hs h1
    exact ⟨hw, by omega, fun x hx => by have := hs x hx; omega⟩
theorem pages_len {d : Doc} (h : (docLines d).length ≤ 20000) : d.pages.length ≤ 20000 ∧ d.header.length ≤ 20000 ∧ ∀ p ∈ d.pages, p.length ≤ 20000 := by
  unfold docLines at h
  simp only [List.length_cons, List.length_append, List.length_nil] at h
  obtain ⟨g1, g2⟩ := pagesLines_len d.pages 0
  exact ⟨by omega, by omega, fun p hp => by have := g2 p hp; omega⟩
theorem pages_mem {d : Doc} {p : List Ln} {x : Ln} (hp : p ∈ d.pages) (hx : x ∈ p) : x ∈ docLines d := by
  have : ∀ (ps : List (List Ln)) (k : Nat), p ∈ ps → x ∈ pagesLines k ps := by
    intro ps
    induction ps with
    | nil => intro k h; cases h
    | cons q r ih =>
      intro k h
      rw [pagesLines, List.mem_cons, List.mem_append]
      rcases List.mem_cons.1 h with rfl | h
      · exact .inr (.inl hx)
      · exact .inr (.inr (ih (k + 1) h))
  unfold docLines
  simp only [List.mem_cons, List.mem_append]
  exact .inr (.inr (.inr (.inr (.inl (this _ 0 hp)))))
theorem pick_fits {l : Ln} {d : Doc} (h : docR l = some d) {ns : List Nat} (hn : ns.length ≤ 1000) : Fits (pickD d ns) := by
  obtain ⟨-, h2, h3⟩ := doc_short h
  obtain ⟨q1, q2, q3⟩ := pages_len h2
  have hgd : ∀ n, ∀ x ∈ d.pages.getD (n - 1) [], x.length ≤ 20000 := by
    intro n x hx
    rw [List.getD_eq_getElem?_getD] at hx
    cases e : d.pages[n - 1]? with
    | none => rw [e] at hx; simp at hx
    | some p => rw [e] at hx; exact h3 x (pages_mem (List.mem_of_getElem? e) hx)
  have hgl : ∀ p ∈ (pickD d ns).pages, p.length ≤ 20000 := by
    intro p hp
    simp only [pickD, List.mem_map] at hp
    obtain ⟨n, -, rfl⟩ := hp
    rw [List.getD_eq_getElem?_getD]
    cases e : d.pages[n - 1]? with
    | none => simp
    | some p => exact q3 p (List.mem_of_getElem? e)
  have hpl := pagesLines_le (pickD d ns).pages 0 hgl
  have hpn : (pickD d ns).pages.length = ns.length := by simp [pickD]
  rw [hpn] at hpl
  have hm : ns.length * (20000 + 1) ≤ 1000 * 20001 := Nat.mul_le_mul_right _ hn
  have hN := h2
  unfold docLines at hN
  simp only [List.length_cons, List.length_append, List.length_nil] at hN
  have e1 : (pickD d ns).header.length = d.header.length := by simp [pickD]
  have e2 : (pickD d ns).prologue = d.prologue := rfl
  have e3 : (pickD d ns).trailer = d.trailer := rfl
  constructor
  · unfold docLines
    simp only [List.length_cons, List.length_append, List.length_nil]
    rw [e1, e2, e3]
    omega
  · intro x hx
    unfold docLines at hx
    simp only [List.mem_cons, List.mem_append, List.not_mem_nil, or_false] at hx
    have hin : ∀ y ∈ docLines d, y.length ≤ 1000000 := fun y hy => by have := h3 y hy; omega
    rcases hx with rfl | hx | rfl | hx | hx | rfl | hx | rfl
    · decide
    · simp only [pickD, List.mem_map] at hx
      obtain ⟨y, hy, rfl⟩ := hx
      have : y.length ≤ 20000 := h3 y (by unfold docLines; simp [hy])
      have := headN_len (n := ns.length) y hn (by omega)
      omega
    · decide
    · exact hin x (by unfold docLines; rw [e2] at hx; simp [hx])
    · rcases pagesLines_mem _ _ hx with ⟨j, hj, rfl⟩ | ⟨p, hp, hx⟩
      · have := dec_len j
        rw [List.length_append]
        have : wPage.length = 8 := rfl
        rw [hpn] at hj
        omega
      · simp only [pickD, List.mem_map] at hp
        obtain ⟨n, -, rfl⟩ := hp
        have := hgd n x hx
        omega
    · decide
    · exact hin x (by unfold docLines; rw [e3] at hx; simp [hx])
    · decide
theorem toNat_map {zs : List Int} (h : ∀ z ∈ zs, 0 ≤ z) : zs.map (Value.int .i64) = (zs.map Int.toNat).map fun (n : Nat) => Value.int .i64 (n : Int) := by
  rw [List.map_map]
  exact List.map_congr_left fun z hz => by
    have := h z hz
    show Value.int .i64 z = Value.int .i64 ((z.toNat : Nat) : Int)
    rw [Int.toNat_of_nonneg this]
theorem offs {n : Nat} {zs : List Int} (h : zs.any (offN n) = false) : ∀ z ∈ zs, 1 ≤ z ∧ z ≤ (n : Int) := by
  intro z hz
  have := List.any_eq_false.1 h z hz
  unfold offN at this
  simp at this
  omega
set_option maxHeartbeats 8000000 in
theorem Pick_run (hC : Codes E) (P : Prims E) (hf : Has E f Code.page_Pick) (G : Gl s) {l : Ln} (hl : l.length ≤ 100000) {hi : Nat} {v : Value} {zs : List Int} (hv : IntsZ s hi v zs) (hhi : hi ≤ s.next) (hz : zs.length ≤ 1000000) : Cv E f [strOf l, v] s fun r t => r = .tuple ⟨pickOf l zs⟩ ∧ Low s.next s t := by
  obtain ⟨vp, vn, vc, rfl, hvn⟩ := hv.parts
  rw [List.length_map, Nat.mul_one] at hvn
  subst hvn
  refine Cv_of hf.code ?_
  have h0 : (Tr.ofList (.e : Fr) 0 [strOf l, .slice vp zs.length vc]).get 0 = some (strOf l) := rfl
  have h1 : (Tr.ofList (.e : Fr) 0 [strOf l, .slice vp zs.length vc]).get 1 = some (.slice vp zs.length vc) := rfl
  generalize (Tr.ofList (.e : Fr) 0 [strOf l, .slice vp zs.length vc]) = fr0 at h0 h1
  unfold Code.page_Pick
  refine W_seq (W_region (by simp only [simq, Int.reduceEq, Nat.reduceEqDiff]; rfl) ?_)
  have K1 : Low s.next s (s.skip 8) := (Low.self s).skip 8
  have m1 := next_skip s 8
  have hG := G.le
  refine W_seq (W_opsM (Wo_run (by simp only [simq, Int.reduceEq, Nat.reduceEqDiff, h0]; rfl) (Wo_call hC.page_Parse.prim (args := [strOf l]) (by simp only [simq, Int.reduceEq, Nat.reduceEqDiff, h0]; try rfl) ((Parse_own hC P hC.page_Parse (G.skip 8) hl).mono ?_))))
  rintro r s2 ⟨⟨l2, cs, rfl, hM⟩, hown⟩
  have hl2 := l2.2.1
  have K2 : Low s.next s s2 := K1.trans (l2.weak (by omega))
  have hcs := hM.len
  refine Wo_run (l := [_, _, _]) (by simp only [simq, Int.reduceEq, Nat.reduceEqDiff, nth0, nth1]; rfl) ?_
  refine Wo_alloc (lo := s.next) (s0 := s) K2 (by omega) (by omega) fun s3 B3 n3 f3 => ?_
  obtain ⟨s4, p4, R4, n4, f4⟩ := B3.own.whole rfl hcs
  refine Wo_all (by simp only [simq, Int.reduceEq, Nat.reduceEqDiff, stor_agg, vcells_agg, five hcs, p4]; rfl) ?_
  show W E _ _ _ _
  have B4 : But (s.next + 5) s2 s4 := ⟨by omega, fun b hb hne => (f4 b hne).trans (f3 b hne)⟩
  have L4 : Low s.next s s4 := K2.trans (But.low B4 (by omega) (by omega))
  have hL4 := L4.2.1
  refine W_gen (T := [(1, .slice vp zs.length vc), (6, ptr (s.next + 5) 0), (7, .int .i64 (errOf l))]) (all_cons (by simp only [simq, Int.reduceEq, Nat.reduceEqDiff, h1]) (all_cons (by simp only [simq, Int.reduceEq, Nat.reduceEqDiff]) (all_cons (by simp only [simq, Int.reduceEq, Nat.reduceEqDiff]) all_nil))) fun fr2 gf => ?_
  have k1 := gf _ (.head _)
  have k6 := gf _ (.tail _ (.head _))
  have k7 := gf _ (.tail _ (.tail _ (.head _)))
  simp only at k1 k6 k7
  clear gf h0 h1
  cases hd : docR l with
  | none =>
    have he := (doc_none hd).1
    rw [he] at k7
    have d1 : decide ((3 : Int) = 0) = false := by decide
    refine W_seq (W_seq (W_region (by simp only [simq, Int.reduceEq, Nat.reduceEqDiff, k7, d1]; rfl) (W_then (by simp only [simq, Int.reduceEq, Nat.reduceEqDiff]; try rfl) ?_)))
    refine W_seq (W_region (by simp only [simq, Int.reduceEq, Nat.reduceEqDiff, k7]; rfl) (W_ret ⟨rfl, _, res_tmp (res_tmp res_nil), ?_, L4⟩))
    rw [pickOf, hd]
    simp only [simq, Int.reduceEq, Nat.reduceEqDiff, tupled]
  | some d =>
    have he := (doc_some hd).1
    rw [he] at k7
    have d1 : decide ((0 : Int) = 0) = true := by decide
    refine W_seq (W_seq (W_region (by simp only [simq, Int.reduceEq, Nat.reduceEqDiff, k7, d1]; rfl) (W_else (by simp only [simq, Int.reduceEq, Nat.reduceEqDiff]; try rfl) (W_skip ?_))))
    show W E _ _ _ _
    obtain ⟨cs', ecs, hO⟩ := hown d hd
    have ecs' : cs' = cs := by injection ecs with e; injection e with e; injection e with e1 e2; injection e1 with e1; injection e1 with e1; exact e1.symm
    subst ecs'
    have hO4 : DocO s4 (s.next + 8) s4.next cs' d := ((hO.to (lo' := s.next + 8) (by omega) (Nat.le_refl _)).but B4 (Nat.le_refl _) (.inl (by omega))).to (Nat.le_refl _) (by omega)
    have hv4 : IntsZ s4 s.next (.slice vp zs.length vc) zs := (hv.low L4 hhi).wide hhi
    obtain ⟨h, p, g, tr, ecs3, -, -, hg, -⟩ := hO4.docM.docV
    obtain ⟨gp, gc, rfl⟩ := hg.parts
    have c3 : s4.cell ⟨s.next + 5, 3, none⟩ = some (.slice gp d.pages.length gc) := by rw [R4.cell 3, ecs3]; rfl
    refine W_seq (W_opsM (Wo_run (by simp only [simq, Int.reduceEq, Nat.reduceEqDiff, k1, k6]; rfl) (Wo_call hC.slices_ContainsFunc_int_int.prim (args := [.slice vp zs.length vc, .func (.func 38) ⟨[]⟩ ⟨[ptr (s.next + 5) 0]⟩]) (by simp only [simq, Int.reduceEq, Nat.reduceEqDiff]; try rfl) ((ContainsFuncI_run hC hC.slices_ContainsFunc_int_int (s := s4) (P := offN d.pages.length) hv4 (by omega) hz hC.page_Pick_1.prim (fun x hx t ht => Pick1_run hC.page_Pick_1 (s := t) (by rw [← c3]; exact ht_cell ht (by omega)) x)).mono ?_))))
    rintro _ s5 ⟨l5, rfl⟩
    have l5 : Low s4.next s4 s5 := l5
    have hl5 := l5.2.1
    refine Wo_all (by simp only [simq, Int.reduceEq, Nat.reduceEqDiff]; rfl) ?_
    show W E _ _ _ _
    have L5 : Low s.next s s5 := L4.trans (l5.weak (by omega))
    have hpk : pickOf l zs = if zs.any (offN d.pages.length) || decide (999 < zs.length) then [strOf [], .int .i64 2] else toldOf (pickD d (zs.map Int.toNat)) := by unfold pickOf; rw [hd]
    cases da : zs.any (offN d.pages.length) with
    | true =>
      rw [da] at hpk
      refine W_seq (W_seq (W_region (by simp only [simq, Int.reduceEq, Nat.reduceEqDiff, k1, da]; rfl) (W_then (by simp only [simq, Int.reduceEq, Nat.reduceEqDiff]; try rfl) ?_)))
      refine W_seq (W_region (by simp only [simq, Int.reduceEq, Nat.reduceEqDiff]; rfl) (W_ret ⟨rfl, _, res_tmp (res_tmp res_nil), ?_, L5⟩))
      rw [hpk]
      simp only [simq, Int.reduceEq, Nat.reduceEqDiff, tupled]; rfl
    | false =>
      rw [da] at hpk
      have dz : decide ((999 : Int) < ((zs.length : Nat) : Int)) = decide (999 < zs.length) := by rw [decide_eq_decide]; omega
      cases db : decide (999 < zs.length) with
      | true =>
        rw [db] at hpk dz
        refine W_seq (W_seq (W_region (by simp only [simq, Int.reduceEq, Nat.reduceEqDiff, k1, da, dz, Int.ofNat_eq_natCast]; rfl) (W_then (by simp only [simq, Int.reduceEq, Nat.reduceEqDiff]; try rfl) ?_)))
        refine W_seq (W_region (by simp only [simq, Int.reduceEq, Nat.reduceEqDiff]; rfl) (W_ret ⟨rfl, _, res_tmp (res_tmp res_nil), ?_, L5⟩))
        rw [hpk]
        simp only [simq, Int.reduceEq, Nat.reduceEqDiff, tupled]; rfl
      | false =>
        rw [db] at hpk dz
        have hpk : pickOf l zs = toldOf (pickD d (zs.map Int.toNat)) := hpk
        have hzn : zs.length ≤ 999 := by have := of_decide_eq_false db; omega
        have ho := offs da
        refine W_seq (W_seq (W_region (by simp only [simq, Int.reduceEq, Nat.reduceEqDiff, k1, da, dz, Int.ofNat_eq_natCast]; rfl) (W_else (by simp only [simq, Int.reduceEq, Nat.reduceEqDiff]; try rfl) (W_skip ?_))))
        show W E _ _ _ _
        have r5 : s5.row ⟨s.next + 5, 0, none⟩ 5 = some cs' := (R4.low l5 (by omega)).row hcs.symm
        have hv5 : Ints s5 s5.next (.slice vp zs.length vc) (zs.map Int.toNat) := by
          have : IntsZ s5 s.next (.slice vp zs.length vc) zs := hv4.low l5 (by omega)
          have := Sl.wide this (show s.next ≤ s5.next by omega)
          rw [toNat_map fun z hz => by have := (ho z hz).1; omega] at this
          exact this
        have sm := doc_small hd hl
        have hxh : ∀ x ∈ d.header, x.length ≤ 100000 := fun x hx => by
          have := (doc_short hd).2.2 x (by unfold docLines; simp [hx])
          omega
        have hkl := pick_run hC P hC.page_pick (s := s5) (G.next L5) (lo := s.next + 8) (hO4.low l5 (by omega)) (by omega) (by omega) (v := .slice vp zs.length vc) hv5 (fun n hn => by
          obtain ⟨z, hz, rfl⟩ := List.mem_map.1 hn
          obtain ⟨o1, o2⟩ := ho z hz
          omega) (by rw [List.length_map]; omega) sm hxh (pick_fits hd (by rw [List.length_map]; omega))
        refine W_seq (W_opsM (Wo_run (by simp only [simq, Int.reduceEq, Nat.reduceEqDiff, k1, k6, r5]; rfl) (Wo_call hC.page_pick.prim (args := [.agg ⟨cs'⟩, .slice vp zs.length vc]) (by simp only [simq, Int.reduceEq, Nat.reduceEqDiff, k1]; try rfl) (hkl.mono ?_))))
        rintro _ s6 ⟨rfl, l6⟩
        obtain ⟨x, y, hxy⟩ : ∃ x y, toldOf (pickD d (zs.map Int.toNat)) = [x, y] := by
          unfold toldOf
          split <;> exact ⟨_, _, rfl⟩
        rw [hpk, hxy]
        refine Wo_all (by simp only [simq, Int.reduceEq, Nat.reduceEqDiff, nth0, nth1]; rfl) ?_
        show W E _ _ _ _
        refine W_ret ⟨rfl, _, res_tmp (res_tmp res_nil), by simp only [simq, Int.reduceEq, Nat.reduceEqDiff, tupled], L5.trans (l6.weak (by omega))⟩
end
end
end Go.Ev
