/-
  A reply out of its bytes, the program's side.
-/
import Derived.Test.YtmpckglmfklfiaaGreatDoorCdGetCall
set_option linter.unusedVariables false
set_option linter.unusedSimpArgs false
namespace Go.Ev
open Int renaming reduceEq → rI
open Nat renaming reduceEqDiff → rN
noncomputable section
structure ItemC where
  id : Int
  parent : Int
  name : List UInt8
  dir : Bool
def ItemC.cells (i : ItemC) : List Value := [.int .i64 i.id, .int .i64 i.parent, strOf i.name, .bool i.dir]
def itemsC (l : List ItemC) : List Value := (l.map ItemC.cells).flatten
theorem itemsC_snoc (l : List ItemC) (i : ItemC) : itemsC (l ++ [i]) = itemsC l ++ i.cells := by unfold itemsC; rw [List.map_append, List.flatten_append]; simp
theorem itemsC_length : ∀ l : List ItemC, (itemsC l).length = l.length * 4
  | [] => rfl
  | i :: l => by
    show (i.cells ++ itemsC l).length = _
    rw [List.length_append, itemsC_length l, List.length_cons, Nat.add_mul, Nat.add_comm]; rfl
structure ReplyC where
  err : Int
  n : Int
  text : List UInt8
def ReplyC.cells (r : ReplyC) (w u : Value) : List Value := [.int .i64 r.err, .int .i64 r.n, strOf r.text, w, u]
def it1 (l : List UInt8) (x : Nat × Int) := fxP l 4 x
def it2 (l : List UInt8) (x : Nat × Int) := fxP l 4 (it1 l x).2
def it3 (l : List UInt8) (x : Nat × Int) := msP l 1 (it2 l x).2
def it4 (l : List UInt8) (x : Nat × Int) := txP l (it3 l x).2
def itV (l : List UInt8) (x : Nat × Int) : ItemC := ⟨((it1 l x).1 : Nat), ((it2 l x).1 : Nat), (it4 l x).1, decide ((it3 l x).1 = 1)⟩
def itsP (l : List UInt8) : Nat → Nat × Int → List ItemC × (Nat × Int)
  | 0, x => ([], x)
  | n + 1, x => if x.2 = 0 then (itV l x :: (itsP l n (it4 l x).2).1, (itsP l n (it4 l x).2).2) else ([], x)
def gr1 (l : List UInt8) := fxP l 2 (0, 0)
def gr2 (l : List UInt8) := nmP l (gr1 l).2
def gr3 (l : List UInt8) := lgP l 65535 (gr2 l).2
def gr4 (l : List UInt8) := lgP l 300 (gr3 l).2
def gr5 (l : List UInt8) := msP l 20 (gr4 l).2
def gr6 (l : List UInt8) := itsP l (gr5 l).1 (gr5 l).2
def grE (l : List UInt8) : Int := (enP l (gr6 l).2).2
def getY (l : List UInt8) : ReplyC := ⟨((gr1 l).1 : Nat), (gr2 l).1, (gr3 l).1⟩
def replyZ : ReplyC := ⟨0, 0, []⟩
section
variable {E : Env} {f : FuncId} {s t : St} {hi a c d : Nat} {v w : Value} {l : List UInt8} {x : Nat × Int}
structure ItL (s0 : St) (hi a c d L L0 n : Nat) (v w : Value) (l dt : List UInt8) (y : ReplyC) (x0 : Nat × Int) (zs : List Value) (i : Nat) (x : Nat × Int) (acc : List ItemC) (u : Value) (fr : Fr) (s : St) : Prop where
  le : i ≤ n
  num : acc.length ≤ i
  so : itsP l n x0 = (acc ++ (itsP l (n - i) x).1, (itsP l (n - i) x).2)
  g : Gt s0 4 5 2 hi a c d v l zs fr s x (y.cells w u)
  f7 : fr.get 7 = some (.int .i64 (i : Nat))
  f6 : fr.get 6 = some (.int .i64 (n : Nat))
  u4 : Gr s L 4 u (itemsC acc)
  w1 : Mid s L0 L 1 w (dt.map ofByte)
  hL : L ≤ s.next
  aL : a < L0
  cL : c < L0
  dL : d < L0
  L0L : L0 ≤ L
  sL : s0.next ≤ L
theorem items_loop (hC : Codes E) {s0 : St} {L L0 n : Nat} {dt : List UInt8} {y : ReplyC} {x0 : Nat × Int} {zs : List Value} (hn : n ≤ 255) {Q : Ex → Fr → St → Prop}
    (hq : ∀ fr t x acc u, (acc, x) = itsP l n x0 → Gt s0 4 5 2 hi a c d v l zs fr t x (y.cells w u) → Gr t L 4 u (itemsC acc) → Mid t L0 L 1 w (dt.map ofByte) → L ≤ t.next → Q (.exit 0) fr t) :
    ∀ (m : Nat) (fr : Fr) (t : St), (∃ i x acc u, m = n - i ∧ ItL s0 hi a c d L L0 n v w l dt y x0 zs i x acc u fr t) → W E (.loop Code.client_GetReply_l0) fr t Q := by
  refine W_inv _ ?_
  rintro m fr t ⟨i, x, acc, u, rfl, I⟩
  have g4 := I.g.r
  have g5 := I.g.b
  have g2 := I.g.o
  have g7 := I.f7
  have g6 := I.f6
  have le := I.le
  have c2 : t.cell ⟨a, 2, none⟩ = some (.int .i64 x.2) := I.g.rd.row.cell 2
  unfold Code.client_GetReply_l0
  by_cases hin : i < n
  case neg =>
    have e0 : n - i = 0 := by omega
    have d1 : decide (((i : Nat) : Int) < ((n : Nat) : Int)) = false := by simp; omega
    refine W_seq (W_seq (W_region (by simp only [sims, rI, rN, g7, g6, d1]; rfl) (W_else (by simp only [sims, rI, rN]) (W_exit ?_))))
    have so := I.so
    rw [e0] at so
    refine hq _ t x acc u (by rw [so]; simp [itsP]) (I.g.frm ?_) I.u4 I.w1 I.hL
    exact ⟨by simp only [sims, rI, rN], by simp only [sims, rI, rN], by simp only [sims, rI, rN]⟩
  have d1 : decide (((i : Nat) : Int) < ((n : Nat) : Int)) = true := by simp; omega
  by_cases he : x.2 = 0
  case neg =>
    have d2 : decide (x.2 = 0) = false := decide_eq_false he
    refine W_seq (W_seq (W_region (by simp only [sims, rI, rN, g7, g6, g4, d1, d2, c2, nilOk_ptr]; rfl) (W_else (by simp only [sims, rI, rN]) (W_exit ?_))))
    have so := I.so
    have e1 : itsP l (n - i) x = ([], x) := by
      obtain ⟨k, hk⟩ : ∃ k, n - i = k + 1 := ⟨n - i - 1, by omega⟩
      rw [hk]
      show (if x.2 = 0 then _ else _) = _
      rw [if_neg he]
    rw [e1] at so
    refine hq _ t x acc u (by rw [so]; simp) (I.g.frm ?_) I.u4 I.w1 I.hL
    exact ⟨by simp only [sims, rI, rN], by simp only [sims, rI, rN], by simp only [sims, rI, rN]⟩
  have d2 : decide (x.2 = 0) = true := decide_eq_true he
  refine W_seq (W_seq (W_region (by simp only [sims, rI, rN, g7, g6, g4, d1, d2, c2, nilOk_ptr]; rfl) (W_then (by simp only [sims, rI, rN]) (W_skip ?_))))
  refine W_gen (T := [(4, ptr a 0), (5, ptr c 0), (2, ptr d 0), (7, .int .i64 (i : Nat)), (6, .int .i64 (n : Nat))]) (all_cons (by simp only [sims, rI, rN, g4]) (all_cons (by simp only [sims, rI, rN, g5]) (all_cons (by simp only [sims, rI, rN, g2]) (all_cons (by simp only [sims, rI, rN, g7]) (all_cons (by simp only [sims, rI, rN, g6]) all_nil))))) fun fr1 h1 => ?_
  have k4 := h1 _ (.head _)
  have k5 := h1 _ (.tail _ (.head _))
  have k2 := h1 _ (.tail _ (.tail _ (.head _)))
  have k7 := h1 _ (.tail _ (.tail _ (.tail _ (.head _))))
  have k6 := h1 _ (.tail _ (.tail _ (.tail _ (.tail _ (.head _)))))
  simp only at k4 k5 k2 k7 k6
  clear h1 c2 g4 g5 g2 g7 g6
  have rd := I.g.rd
  have hLt := I.hL
  have aL := I.aL
  have cL := I.cL
  have dL := I.dL
  have L0L := I.L0L
  have hm := I.g.mh
  refine W_seq (W_block (W_seq (W_opsM (Wo_run (by simp only [sims, rI, rN, k4]; rfl) (Wo_call hC._tithing_client_reader_fixed.prim (args := [ptr a 0, .int .i64 (4 : Nat)]) (by simp only [sims, rI, rN]; try rfl) ((fixed_run hC hC._tithing_client_reader_fixed (rd.low ((Low.self t).skip 5) rd.lt) (n := 4) (by decide)).mono ?_))))))
  rintro _ t1 ⟨rfl, R1, B1⟩
  have hn1 : t.next + 5 ≤ t1.next := by have := B1.1; rw [next_skip] at this; exact this
  have K1 : But a t t1 := (((Low.self t).skip 5).but a).trans B1
  refine Wo_build (l := ItemC.cells ⟨((it1 l x).1 : Nat), 0, [], false⟩) (by simp only [sims, rI, rN]; rfl) ?_
  refine Wo_alloc (lo := L) (s0 := t1) (Low.refl (by omega)) (by omega) (by omega) fun t2 B2 n2 f2 => ?_
  have K2 : But (t.next + 3) t1 t2 := ⟨Nat.le_of_eq n2.symm, fun b _ hb => f2 b hb⟩
  obtain ⟨t3, p3, R3, n3, f3⟩ := Row.put B2.at_ (o := 0) (vs := ItemC.cells ⟨((it1 l x).1 : Nat), 0, [], false⟩) (Nat.le_refl _)
  have K3 := but_put n3 f3
  have hl4 : Nat.beq (lenL (ItemC.cells ⟨((it1 l x).1 : Nat), 0, [], false⟩)) 4 = true := rfl
  refine Wo_all (by simp only [sims, rI, rN, hl4, p3]; rfl) ?_
  refine W_gen (T := [(4, ptr a 0), (8, ptr (t.next + 3) 0), (5, ptr c 0), (2, ptr d 0), (7, .int .i64 (i : Nat)), (6, .int .i64 (n : Nat))]) (all_cons (by simp only [sims, rI, rN, k4]) (all_cons (by simp only [sims, rI, rN]) (all_cons (by simp only [sims, rI, rN, k5]) (all_cons (by simp only [sims, rI, rN, k2]) (all_cons (by simp only [sims, rI, rN, k7]) (all_cons (by simp only [sims, rI, rN, k6]) all_nil)))))) fun fr3 h3 => ?_
  have rdlt := rd.lt
  have rdge := rd.ge
  have cda : a ≠ c := I.g.ac
  have dda : a ≠ d := I.g.ad
  have G3 : Gt t 4 8 5 hi a (t.next + 3) c v l (y.cells w u) fr3 t3 (it1 l x).2 (ItemC.cells ⟨((it1 l x).1 : Nat), 0, [], false⟩) :=
    { r := h3 _ (.head _), b := h3 _ (.tail _ (.head _)), o := h3 _ (.tail _ (.tail _ (.head _))), rd := (R1.but K2 (by omega) (by omega)).but K3 (by omega) (by omega), box := R3,
      out := ((I.g.box.but K1 I.g.hc (Ne.symm cda)).but K2 (by have := I.g.hc; omega) (by omega)).but K3 (by have := I.g.hc; omega) (by omega), ac := by omega, ad := cda, cd := by omega, hc := by omega, hd := by have := I.g.hc; omega, mc := by omega, mh := by omega, keep := (K1.over K2 (by omega)).over K3 (by omega) }
  have j2 := h3 _ (.tail _ (.tail _ (.tail _ (.head _))))
  have j7 := h3 _ (.tail _ (.tail _ (.tail _ (.tail _ (.head _)))))
  have j6 := h3 _ (.tail _ (.tail _ (.tail _ (.tail _ (.tail _ (.head _))))))
  simp only at j2 j7 j6
  clear h3
  refine W_seq (G3.fixed hC (n := 4) (by decide) hC._tithing_client_reader_fixed (le_by rfl) (by decide) fun fr4 t4 e4 G4 => ?_)
  refine W_seq (G4.flag hC (n := 1) (by decide) hC._tithing_client_reader_most (le_by rfl) (by decide) fun fr5 t5 e5 G5 => ?_)
  refine W_seq (G5.txt hC hC._tithing_client_reader_text (le_by rfl) (by decide) fun fr6 t6 e6 G6 => ?_)
  have G6 : Gt t 4 8 5 hi a (t.next + 3) c v l (y.cells w u) fr6 t6 (it4 l x).2 (itV l x).cells := G6
  have m2 : fr6.get 2 = some (ptr d 0) := (e6 2 (by decide) (by decide) (by decide)).trans ((e5 2 (by decide) (by decide) (by decide) (by decide)).trans ((e4 2 (by decide) (by decide) (by decide)).trans j2))
  have m7 : fr6.get 7 = some (.int .i64 (i : Nat)) := (e6 7 (by decide) (by decide) (by decide)).trans ((e5 7 (by decide) (by decide) (by decide) (by decide)).trans ((e4 7 (by decide) (by decide) (by decide)).trans j7))
  have m6 : fr6.get 6 = some (.int .i64 (n : Nat)) := (e6 6 (by decide) (by decide) (by decide)).trans ((e5 6 (by decide) (by decide) (by decide) (by decide)).trans ((e4 6 (by decide) (by decide) (by decide)).trans j6))
  clear e4 e5 e6 j2 j7 j6 G3 G4 G5
  have m4 := G6.r
  have m5 := G6.o
  have m8 := G6.b
  have c4 : t6.cell ⟨c, 4, none⟩ = some u := G6.out.cell 4
  have r8 : t6.row ⟨t.next + 3, 0, none⟩ 4 = some (itV l x).cells := G6.box.row rfl
  have K6 := G6.keep
  have hn6 : t.next ≤ t6.next := K6.1
  refine W_ops (Wo_run (l := [_, _, _]) (by simp only [sims, rI, rN, m5, m8, c4, r8]; rfl) ?_)
  refine Wo_buildSlice (size := 4) (lo := t6.next) (cs := (itV l x).cells) (by simp only [sims, rI, rN]; rfl) rfl (Nat.le_add_right _ _) (by rw [next_skip]; omega) (by decide) ?_
  rintro t7 ⟨-, g1⟩ l7 hs7
  have l7 : Low t6.next t6 t7 := ((Low.self t6).skip 7).trans l7
  have hu : Gr t7 L 4 u (itemsC acc) := (I.u4.but K6 (by omega)).low l7 (Nat.le_refl _)
  have hacc := I.num
  refine Wo_append (lo := L) (by simp only [sims, rI, rN]) (by simp only [sims, rI, rN]) hu (Nat.le_trans (Nat.le_trans hLt hn6) l7.2.1) g1.sl.feed (by decide) (by rw [itemsC_length]; show (acc.length * 4 + 4) * 40 ≤ room * 4; simp only [room]; omega) ?_
  rintro u' t8 g8 l8 -
  have cells : storable u' = true ∧ vcells u' = [u'] := g8.cells
  have hul : Nat.beq (lenL [u']) 1 = true := rfl
  have hdn : d < t6.next := Nat.lt_of_lt_of_le dL (Nat.le_trans L0L (Nat.le_trans hLt hn6))
  have hcn : c < t6.next := Nat.lt_of_lt_of_le cL (Nat.le_trans L0L (Nat.le_trans hLt hn6))
  have G8 : Gt s0 4 5 2 hi a c d v l zs fr6 t8 (it4 l x).2 (y.cells w u) :=
    { r := m4, b := m5, o := m2, rd := (G6.rd.low l7 (by omega)).low l8 (by omega), box := (G6.out.low l7 hcn).low l8 (by omega), out := (((I.g.out.but K6 I.g.hd (Ne.symm dda)).low l7 hdn).low l8 (by omega)),
      ac := cda, ad := dda, cd := I.g.cd, hc := Nat.lt_of_lt_of_le (Nat.lt_of_lt_of_le hcn l7.2.1) l8.2.1, hd := Nat.lt_of_lt_of_le (Nat.lt_of_lt_of_le hdn l7.2.1) l8.2.1, mc := I.g.mc, mh := hm, keep := ((I.g.keep.trans K6).trans (l7.but a)).lows l8 I.sL }
  obtain ⟨t9, p9, G9, B9⟩ := G8.put (i := 4) (vs := [u']) (le_by rfl)
  refine Wo_all (by simp only [sims, rI, rN, m5, cells.1, cells.2, hul, p9]; rfl) ?_
  show W E _ _ _ _
  have e1 : wr .i64 (((i : Nat) : Int) + 1) = ((i + 1 : Nat) : Int) := by rw [wr_i64 (by omega) (by omega)]; omega
  refine W_region (by simp only [sims, rI, rN, m7, e1]; rfl) ?_
  refine ⟨n - (i + 1), by omega, i + 1, (it4 l x).2, acc ++ [itV l x], u', rfl, ?_⟩
  obtain ⟨k, hk⟩ : ∃ k, n - i = k + 1 := ⟨n - i - 1, by omega⟩
  have so := I.so
  rw [hk] at so
  have e2 : itsP l (k + 1) x = (itV l x :: (itsP l k (it4 l x).2).1, (itsP l k (it4 l x).2).2) := by
    show (if x.2 = 0 then _ else _) = _
    rw [if_pos he]
  exact { le := by omega, num := by rw [List.length_append, List.length_singleton]; omega, so := by rw [so, e2, show n - (i + 1) = k from by omega]; simp,
          g := G9.frm ⟨by simp only [sims, rI, rN], by simp only [sims, rI, rN], by simp only [sims, rI, rN]⟩, f7 := by simp only [sims, rI, rN], f6 := by simp only [sims, rI, rN, m6], u4 := by rw [itemsC_snoc]; exact g8.but B9 (by omega),
          w1 := (((I.w1.but K6 hLt (.inl aL)).low l7 (Nat.le_trans hLt hn6)).low l8 (Nat.le_refl _)).but B9 (Nat.le_trans (Nat.le_trans (Nat.le_trans hLt hn6) l7.2.1) l8.2.1) (.inl cL),
          hL := Nat.le_trans (Nat.le_trans (Nat.le_trans (Nat.le_trans hLt hn6) l7.2.1) l8.2.1) B9.1, aL := aL, cL := cL, dL := dL, L0L := L0L, sL := I.sL }
set_option maxHeartbeats 2000000 in
theorem GetReply_run (hC : Codes E) (hf : Has E f Code.client_GetReply) (hs : Sl s s.next 1 v (l.map ofByte)) (hl : l.length ≤ 65536) : Cv E f [v] s fun r s' => Low s.next s s' ∧
    ((grE l ≠ 0 ∧ r = .tuple ⟨[.agg ⟨replyZ.cells (.slice none 0 0) (.slice none 0 0)⟩, .int .i64 (grE l)]⟩) ∨
     (grE l = 0 ∧ ∃ w u, r = .tuple ⟨[.agg ⟨(getY l).cells w u⟩, .int .i64 0]⟩ ∧ Mid s' s.next s'.next 1 w ((gr4 l).1.map ofByte) ∧ Mid s' s.next s'.next 4 u (itemsC (gr6 l).1))) := by
  obtain ⟨p, m, cc, rfl, hm⟩ := hs.parts
  rw [List.length_map, Nat.mul_one] at hm
  subst hm
  refine Cv_of hf.code ?_
  have h0 : (Tr.ofList (.e : Fr) 0 [.slice p l.length cc]).get 0 = some (.slice p l.length cc) := rfl
  generalize (Tr.ofList (.e : Fr) 0 [.slice p l.length cc]) = fr0 at h0
  unfold Code.client_GetReply
  refine W_seq (W_ops (Wo_alloc (lo := s.next) (s0 := s) ((Low.self s).skip 2) (Nat.le_add_right _ _) (by rw [next_skip]; omega) fun s1 B1 n1 _ => Wo_all (by simp only [sims, rI, rN]; rfl) ?_))
  rw [Nat.add_zero] at B1
  rw [next_skip] at n1
  refine W_seq (W_ops (Wo_run (l := [_, _]) (by simp only [sims, rI, rN, h0]; rfl) (Wo_box (lo := s.next) (s0 := s) (z := [.slice p l.length cc, .int .i64 0, .int .i64 0]) (by simp only [sims, rI, rN]; rfl) rfl rfl (B1.low.skip 4) (Nat.le_trans B1.low.le (Nat.le_add_right _ _)) (by rw [next_skip]; omega) fun s2 B2 n2 f2 => Wo_all (by simp only [sims, rI, rN]; rfl) ?_)))
  rw [next_skip] at n2
  have O2 : Row s2 s.next (replyZ.cells (.slice none 0 0) (.slice none 0 0)) := by
    obtain ⟨es, e⟩ := B1.at_
    exact ⟨es, by rw [f2 _ (by omega), get_skip]; exact e⟩
  have R2 : Rd s2 s.next (s1.next + 2) (.slice p l.length cc) l (0, 0) := ⟨B2.at_, hs.low B2.low (Nat.le_refl _), by omega, by omega, Nat.zero_le _, hl⟩
  refine W_seq (W_opsM (Wo_run (by simp only [sims, rI, rN]; rfl) (Wo_call hC._tithing_client_reader_fixed.prim (args := [ptr (s1.next + 2) 0, .int .i64 (2 : Nat)]) (by simp only [sims, rI, rN]; try rfl) ((fixed_run hC hC._tithing_client_reader_fixed (R2.low ((Low.self s2).skip 5) R2.lt) (n := 2) (by decide)).mono ?_))))
  rintro _ s3 ⟨rfl, R3, B3⟩
  have hn3 : s2.next + 5 ≤ s3.next := by have := B3.1; rw [next_skip] at this; exact this
  refine Wo_build (l := ReplyC.cells ⟨((gr1 l).1 : Nat), 0, []⟩ (.slice none 0 0) (.slice none 0 0)) (by simp only [sims, rI, rN]; rfl) ?_
  have K3 : But (s1.next + 2) s s3 := (B2.low.but _).trans ((((Low.self s2).skip 5).but _).trans B3)
  refine Wo_alloc (lo := s.next) (s0 := s) (K3.new (by omega)) (by omega) (by omega) fun s4 B4 n4 f4 => ?_
  have K4 : But (s2.next + 3) s3 s4 := ⟨Nat.le_of_eq n4.symm, fun b _ hb => f4 b hb⟩
  obtain ⟨s5, p5, R5, n5, f5⟩ := Row.put B4.at_ (o := 0) (vs := ReplyC.cells ⟨((gr1 l).1 : Nat), 0, []⟩ (.slice none 0 0) (.slice none 0 0)) (Nat.le_refl _)
  have K5 := but_put n5 f5
  have hl5 : Nat.beq (lenL (ReplyC.cells ⟨((gr1 l).1 : Nat), 0, []⟩ (.slice none 0 0) (.slice none 0 0))) 5 = true := rfl
  refine Wo_all (by simp only [sims, rI, rN, hl5, p5]; rfl) ?_
  refine W_gen (T := [(4, ptr (s1.next + 2) 0), (5, ptr (s2.next + 3) 0), (2, ptr s.next 0)]) (all_cons (by simp only [sims, rI, rN]) (all_cons (by simp only [sims, rI, rN]) (all_cons (by simp only [sims, rI, rN]) all_nil))) fun fr5 h5 => ?_
  have G0 : Gt s 4 5 2 s.next (s1.next + 2) (s2.next + 3) s.next (.slice p l.length cc) l (replyZ.cells (.slice none 0 0) (.slice none 0 0)) fr5 s5 (gr1 l).2 (ReplyC.cells ⟨((gr1 l).1 : Nat), 0, []⟩ (.slice none 0 0) (.slice none 0 0)) :=
    { r := h5 _ (.head _), b := h5 _ (.tail _ (.head _)), o := h5 _ (.tail _ (.tail _ (.head _))), rd := (R3.but K4 (by omega) (by omega)).but K5 (by omega) (by omega), box := R5, out := ((((O2.skip 5).but B3 (by rw [next_skip]; omega) (by omega)).but K4 (by omega) (by omega)).but K5 (by omega) (by omega)),
      ac := by omega, ad := by omega, cd := by omega, hc := by omega, hd := by omega, mc := by omega, mh := by omega, keep := (K3.over K4 (by omega)).over K5 (by omega) }
  clear h5
  refine W_seq (G0.num hC hC._tithing_client_reader_number (le_by rfl) (by decide) fun fr6 s6 _ G6 => ?_)
  have G6 : Gt s 4 5 2 s.next (s1.next + 2) (s2.next + 3) s.next (.slice p l.length cc) l (replyZ.cells (.slice none 0 0) (.slice none 0 0)) fr6 s6 (gr2 l).2 (ReplyC.cells ⟨((gr1 l).1 : Nat), (gr2 l).1, []⟩ (.slice none 0 0) (.slice none 0 0)) := G6
  clear G0
  have k4 := G6.r
  have k5 := G6.b
  have k2 := G6.o
  first | refine W_seq (W_opsM (Wo_run (by simp only [sims, rI, rN, k4]; rfl) (Wo_call hC._tithing_client_reader_long.prim (by simp only [sims, rI, rN, k4]; try rfl) ((long_r_run hC hC._tithing_client_reader_long G6.rd (n := 65535) (by decide)).mono ?_)))) | refine W_seq (W_ops (Wo_run (by simp only [sims, rI, rN, k4]; rfl) (Wo_call hC._tithing_client_reader_long.prim (by simp only [sims, rI, rN, k4]; try rfl) ((long_r_run hC hC._tithing_client_reader_long G6.rd (n := 65535) (by decide)).mono ?_))))
  rintro w7 s7 ⟨R7, B7, S7⟩
  have G7 := G6.go (y := (gr3 l).2) R7 B7
  refine Wo_op (v := strOf (gr3 l).1) (s' := s7) (convBS_of (by simp only [sims, rI, rN]) S7.sl _ _) ?_
  obtain ⟨s8, p8, G8, -⟩ := G7.put (i := 2) (vs := [strOf (gr3 l).1]) (le_by rfl)
  refine Wo_all (by simp only [sims, rI, rN, k5, p8]; rfl) ?_
  refine W_gen (T := [(4, ptr (s1.next + 2) 0), (5, ptr (s2.next + 3) 0), (2, ptr s.next 0)]) (all_cons (by simp only [sims, rI, rN, k4]) (all_cons (by simp only [sims, rI, rN, k5]) (all_cons (by simp only [sims, rI, rN, k2]) all_nil))) fun fr8 h8 => ?_
  have G8 : Gt s 4 5 2 s.next (s1.next + 2) (s2.next + 3) s.next (.slice p l.length cc) l (replyZ.cells (.slice none 0 0) (.slice none 0 0)) fr8 s8 (gr3 l).2 ((getY l).cells (.slice none 0 0) (.slice none 0 0)) :=
    { G8 with r := h8 _ (.head _), b := h8 _ (.tail _ (.head _)), o := h8 _ (.tail _ (.tail _ (.head _))) }
  clear h8 G7 G6
  refine W_seq (G8.field (ws := [.int .i64 (300 : Nat)]) (P := fun r s' => Gr s' s8.next 1 r ((gr4 l).1.map ofByte) ∧ s8.next ≤ s'.next) hC._tithing_client_reader_long.prim (fun _ => rfl) ((long_r_run hC hC._tithing_client_reader_long G8.rd (n := 300) (by decide)).mono fun r s' h => ⟨⟨h.2.2, h.2.1.1⟩, h.1, h.2.1⟩) (by rintro r s' ⟨h, -⟩; exact ⟨h.cells.1, by rw [h.cells.2]; rfl⟩) (le_by rfl) (by decide) ?_)
  rintro w fr9 s9' s9 ⟨gw, hs89⟩ Bw _ G9
  have gw := gw.but Bw G8.hc
  rw [gw.cells.2] at G9
  have G9 : Gt s 4 5 2 s.next (s1.next + 2) (s2.next + 3) s.next (.slice p l.length cc) l (replyZ.cells (.slice none 0 0) (.slice none 0 0)) fr9 s9 (gr4 l).2 ((getY l).cells w (.slice none 0 0)) := G9
  have q4 := G9.r
  have q5 := G9.b
  have q2 := G9.o
  first | refine W_seq (W_opsM (Wo_run (by simp only [sims, rI, rN, q4]; rfl) (Wo_call hC._tithing_client_reader_most.prim (by simp only [sims, rI, rN, q4]; try rfl) ((most_run hC hC._tithing_client_reader_most G9.rd (n := 20) (by decide)).mono ?_)))) | refine W_seq (W_ops (Wo_run (by simp only [sims, rI, rN, q4]; rfl) (Wo_call hC._tithing_client_reader_most.prim (by simp only [sims, rI, rN, q4]; try rfl) ((most_run hC hC._tithing_client_reader_most G9.rd (n := 20) (by decide)).mono ?_))))
  rintro _ s10 ⟨rfl, R10, B10⟩
  have G10 := G9.go (y := (gr5 l).2) R10 B10
  have gw := gw.but B10 G8.rd.lt
  refine Wo_all (by simp only [sims, rI, rN]; rfl) ?_
  refine W_seq (W_seq (W_region (by simp only [sims, rI, rN]; rfl) ?_))
  have hn5 := fxP_lt l 1 (gr4 l).2
  refine W_block (items_loop hC (s0 := s) (hi := s.next) (a := s1.next + 2) (c := s2.next + 3) (d := s.next) (L := s10.next) (L0 := s8.next) (n := (gr5 l).1) (v := .slice p l.length cc) (l := l) (dt := (gr4 l).1) (y := getY l) (x0 := (gr5 l).2) (zs := replyZ.cells (.slice none 0 0) (.slice none 0 0)) (w := w) (Nat.le_of_lt_succ hn5) ?_ ((gr5 l).1 - 0) _ s10 ⟨0, (gr5 l).2, [], .slice none 0 0, rfl, ?_⟩)
  rotate_left
  · have gm := gw.mid
    exact { le := Nat.zero_le _, num := Nat.le_refl _, so := rfl, g := { G10 with r := by simp only [sims, rI, rN, q4], b := by simp only [sims, rI, rN, q5], o := by simp only [sims, rI, rN, q2] }, f7 := by simp only [sims, rI, rN]; rfl, f6 := by simp only [sims, rI, rN]; rfl, u4 := .nil, w1 := gm, hL := Nat.le_refl _, aL := G8.rd.lt, cL := G8.hc, dL := G8.hd, L0L := Nat.le_trans hs89 (Nat.le_trans Bw.1 B10.1), sL := G10.keep.1 }
  intro fr11 s11 x11 acc u hx G11 gu gw hL
  show W E _ _ _ _
  obtain ⟨rfl, rfl⟩ : acc = (gr6 l).1 ∧ x11 = (gr6 l).2 := ⟨congrArg Prod.fst hx, congrArg Prod.snd hx⟩
  clear hx
  have r4 := G11.r
  have r5 := G11.b
  have r2 := G11.o
  first | refine W_seq (W_seq (W_opsM (Wo_run (by simp only [sims, rI, rN, r4]; rfl) (Wo_call hC._tithing_client_reader_end.prim (by simp only [sims, rI, rN, r4]; try rfl) ((end_run hC hC._tithing_client_reader_end G11.rd).mono ?_))))) | refine W_seq (W_seq (W_ops (Wo_run (by simp only [sims, rI, rN, r4]; rfl) (Wo_call hC._tithing_client_reader_end.prim (by simp only [sims, rI, rN, r4]; try rfl) ((end_run hC hC._tithing_client_reader_end G11.rd).mono ?_)))))
  rintro _ s12 ⟨rfl, R12, B12⟩
  have G12 := G11.go R12 B12
  have aL : s1.next + 2 < s10.next := Nat.lt_of_lt_of_le G10.rd.lt (Nat.le_refl _)
  have gu := gu.but B12 aL
  have gw := gw.but B12 hL (.inl G8.rd.lt)
  refine Wo_all (by simp only [sims, rI, rN]; rfl) ?_
  have hE : (enP l (gr6 l).2).2 = grE l := rfl
  rw [hE]
  by_cases he : grE l = 0
  · refine W_seq (W_region (by simp only [sims, rI, rN, he]; rfl) ?_)
    refine W_else (by simp only [sims, rI, rN]) (W_skip ?_)
    have rw12 : s12.row ⟨s2.next + 3, 0, none⟩ 5 = some ((getY l).cells w u) := G12.box.row rfl
    obtain ⟨z, pz, Z, nz, fz⟩ := G12.out.put (o := 0) (vs := (getY l).cells w u) (Nat.le_refl _)
    have Z : Row z s.next ((getY l).cells w u) := Z
    have BZ := but_put nz fz
    have hl5' : Nat.beq (lenL ((getY l).cells w u)) 5 = true := rfl
    refine W_seq (W_region (by simp only [sims, rI, rN, r2, r5, rw12, hl5', pz]; rfl) ?_)
    refine W_ret ⟨rfl, _, res_cell (by simp only [sims, rI, rN, r2]) (Z.row rfl) (res_tmp res_nil), (G12.keep.over BZ (Nat.le_refl _)).new (by omega), .inr ⟨he, w, u, ?_, ?_, ?_⟩⟩
    · show tupled [_, orUndef (Tr.get _ 3)] = _
      rw [Tr.get_set_same]; rfl
    · exact ((gw.but BZ (Nat.le_trans hL B12.1) (.inl G8.hd)).wide (Nat.le_trans (Nat.le_trans hL B12.1) BZ.1)).weak G8.keep.1
    · exact (gu.but BZ G10.hd).mid.weak G10.keep.1
  · have dE : decide (grE l = 0) = false := decide_eq_false he
    refine W_seq (W_region (by simp only [sims, rI, rN, dE]; rfl) ?_)
    refine W_then (by simp only [sims, rI, rN]) ?_
    obtain ⟨z, pz, Z, nz, fz⟩ := G12.out.put (o := 0) (vs := replyZ.cells (.slice none 0 0) (.slice none 0 0)) (Nat.le_refl _)
    have Z : Row z s.next (replyZ.cells (.slice none 0 0) (.slice none 0 0)) := Z
    have BZ := but_put nz fz
    have hl5' : Nat.beq (lenL (replyZ.cells (.slice none 0 0) (.slice none 0 0))) 5 = true := rfl
    refine W_seq (W_ops (Wo_build (l := replyZ.cells (.slice none 0 0) (.slice none 0 0)) rfl (Wo_all (by simp only [sims, rI, rN, r2, hl5', pz]; rfl) ?_)))
    refine W_ret ⟨rfl, _, res_cell (by simp only [sims, rI, rN, r2]) (Z.row rfl) (res_tmp res_nil), (G12.keep.over BZ (Nat.le_refl _)).new (by omega), .inl ⟨he, ?_⟩⟩
    show tupled [_, orUndef (Tr.get _ 3)] = _
    rw [Tr.get_set_same]; rfl
end
end
end Go.Ev
