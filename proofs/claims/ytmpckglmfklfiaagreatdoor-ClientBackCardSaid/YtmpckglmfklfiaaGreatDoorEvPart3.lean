/-
  A machine that runs the program's code, and that what it does the model does; part 3.
  EvKeep EvBox EvSim EvSum EvHot EvSeg EvInsert EvShaped EvArg EvLaid EvOpen EvAgain EvOwn
-/
import Derived.Test.YtmpckglmfklfiaaGreatDoorEvPart2
import Derived.Lib.AppendZerosOnto
import Derived.Laws.AppendOwn
import Derived.WalkKit
import Derived.ProofKit
import Derived.OpenShut
import Derived.ShutString
import Derived.ChangeOld
import Derived.Below
import Derived.SizedLaws
import Derived.LaidMore
import Derived.Lay
import Derived.Stop.Joined
import Derived.Deep.Slices
import Derived.ChangeSlices
set_option linter.unusedVariables false
set_option linter.unusedSimpArgs false
namespace Go.Ev
noncomputable section
theorem bindM_mem {α β : Type} {k : α → Option (List β)} : ∀ {l : List α} {r : List β}, bindM k l = some r → ∀ y ∈ r, ∃ x ∈ l, ∃ a, k x = some a ∧ y ∈ a
  | [], r, h, y, hy => by cases h; cases hy
  | x :: l, r, h, y, hy => by
    rw [bindM_cons] at h
    obtain ⟨a, h1, h2⟩ := ob_eq.1 h
    obtain ⟨b, h3, rfl⟩ := om_eq.1 h2
    rw [appL_eq, List.mem_append] at hy
    rcases hy with hy | hy
    · exact ⟨x, by simp, a, h1, hy⟩
    · obtain ⟨z, h4, h5⟩ := bindM_mem h3 y hy
      exact ⟨z, List.mem_cons_of_mem _ h4, h5⟩
theorem bindL_mem {α β : Type} {k : α → Option (List β)} {l : List α} {r : List β} (h : bindL l k = some r) : ∀ y ∈ r, ∃ x ∈ l, ∃ a, k x = some a ∧ y ∈ a := by
  intro y hy
  cases l with
  | nil => cases h; cases hy
  | cons x l => cases l with
    | nil => exact ⟨x, by simp, r, h, hy⟩
    | cons z l => exact bindM_mem (k := k) (l := x :: z :: l) (show bindM k (x :: z :: l) = some r from h) y hy
def wOps (ops : List COper) : List Nat := ops.filterMap (·.dst)
def CCode.writes : CCode → List Nat
  | .region _ ops => wOps ops
  | .many _ ops => wOps ops
  | .seq a b => a.writes ++ b.writes
  | .cond _ a b => a.writes ++ b.writes
  | .block _ b => b.writes
  | .loop b => b.writes
  | _ => []
def CCode.simple : CCode → Bool
  | .seq a b => a.simple && b.simple
  | .cond _ a b => a.simple && b.simple
  | .block _ b => b.simple
  | .loop b => b.simple
  | .mapRange .. => false
  | .rangeFunc .. => false
  | _ => true
theorem runOps_keeps {call : Caller} {rd : Rounder} {b : Nat} : ∀ {ops : List COper} {fr fr' : Fr} {s s' : St}, runOps call rd b ops fr s = some (fr', s') → ∀ t, t ∉ wOps ops → fr'.get t = fr.get t
  | [], fr, fr', s, s', h, t, ht => by cases h; rfl
  | o :: ops, fr, fr', s, s', h, t, ht => by
    have ht2 : t ∉ wOps ops := fun k => ht (by
      unfold wOps at k ⊢
      rw [List.filterMap_cons]
      cases o.dst with
      | none => exact k
      | some d => exact List.mem_cons_of_mem _ k)
    have hput : ∀ v, (putD fr o.dst v).get t = fr.get t := by
      intro v
      cases hd : o.dst with
      | none => rfl
      | some d =>
        have : d ≠ t := fun e => ht (by
          unfold wOps
          rw [List.filterMap_cons, hd]
          simp [e])
        exact Tr.get_set_ne _ _ this
    have h : stepOp call rd b o (runOps call rd b ops) fr s = some (fr', s') := h
    have hd : doOp call rd b o (runOps call rd b ops) fr s = some (fr', s') → fr'.get t = fr.get t := by
      intro h
      obtain ⟨r, h1, h2⟩ := ob_eq.1 (show ob ((oneOp o.op).run call rd fr s (b + o.ix)) (fun r => List.rec (runOps call rd b ops (putD fr o.dst r.1) r.2) (fun _ _ _ => must (againOk fr r.2 o.again) (runOps call rd b ops (putD fr o.dst r.1) r.2)) o.again) = some (fr', s') from h)
      have h3 : runOps call rd b ops (putD fr o.dst r.1) r.2 = some (fr', s') := by
        revert h2
        cases o.again with
        | nil => exact id
        | cons x l => exact fun h => (must_eq.1 h).2
      rw [runOps_keeps h3 t ht2, hput]
    unfold stepOp at h
    cases hg : o.guard with
    | none => rw [hg] at h; exact hd h
    | some g =>
      rw [hg] at h
      have h : (Bool.rec (runOps call rd b ops (putD fr o.dst undef) s) (doOp call rd b o (runOps call rd b ops) fr s) (wanted g fr) : RF) = some (fr', s') := h
      cases hw : wanted g fr with
      | true => rw [hw] at h; exact hd h
      | false =>
        rw [hw] at h
        rw [runOps_keeps (ops := ops) h t ht2, hput]
theorem runOpsL_keeps {call : CallerL} {rd : RounderL} {b : Nat} : ∀ {ops : List COper} {fr : Fr} {s : St} {l : List (Fr × St)}, runOpsL call rd b ops fr s = some l → ∀ x ∈ l, ∀ t, t ∉ wOps ops → x.1.get t = fr.get t
  | [], fr, s, l, h, x, hx, t, ht => by
    cases h
    simp only [List.mem_cons, List.not_mem_nil, or_false] at hx
    subst hx; rfl
  | o :: ops, fr, s, l, h, x, hx, t, ht => by
    have ht2 : t ∉ wOps ops := fun k => ht (by
      unfold wOps at k ⊢
      rw [List.filterMap_cons]
      cases o.dst with
      | none => exact k
      | some d => exact List.mem_cons_of_mem _ k)
    have hput : ∀ v, (putD fr o.dst v).get t = fr.get t := by
      intro v
      cases hd : o.dst with
      | none => rfl
      | some d =>
        have : d ≠ t := fun e => ht (by
          unfold wOps
          rw [List.filterMap_cons, hd]
          simp [e])
        exact Tr.get_set_ne _ _ this
    have h : stepOpL call rd b o (runOpsL call rd b ops) fr s = some l := h
    have hd : doOpL call rd b o (runOpsL call rd b ops) fr s = some l → x.1.get t = fr.get t := by
      intro h
      obtain ⟨rs, h1, h2⟩ := ob_eq.1 h
      obtain ⟨r, _, a, h3, h4⟩ := bindL_mem h2 x hx
      rw [runOpsL_keeps h3 x h4 t ht2, hput]
    unfold stepOpL at h
    cases hg : o.guard with
    | none => rw [hg] at h; exact hd h
    | some g =>
      rw [hg] at h
      have h : (Bool.rec (runOpsL call rd b ops (putD fr o.dst undef) s) (doOpL call rd b o (runOpsL call rd b ops) fr s) (wanted g fr) : RFL) = some l := h
      cases hw : wanted g fr with
      | true => rw [hw] at h; exact hd h
      | false =>
        rw [hw] at h
        rw [runOpsL_keeps (ops := ops) h x hx t ht2, hput]
section
variable {E : Env}
theorem kSeq_mem {rc : Rec} {b : CCode} {r : RCL} {l : List (Ex × Fr × St)} (h : kSeq rc b r = some l) : ∀ y ∈ l, ∃ l0, r = some l0 ∧ ∃ x ∈ l0, (x.1 = .normal ∧ ∃ a, rc b x.2.1 x.2.2 = some a ∧ y ∈ a) ∨ y = x := by
  intro y hy
  obtain ⟨l0, h1, h2⟩ := ob_eq.1 h
  obtain ⟨x, h3, a, h4, h5⟩ := bindL_mem h2 y hy
  refine ⟨l0, h1, x, h3, ?_⟩
  obtain ⟨e, f, s⟩ := x
  cases e with
  | normal => exact .inl ⟨rfl, a, h4, h5⟩
  | exit j =>
    have h4 : some [((Ex.exit j, f, s) : Ex × Fr × St)] = some a := h4
    cases h4
    simp only [List.mem_cons, List.not_mem_nil, or_false] at h5
    exact .inr h5
  | ret =>
    have h4 : some [((Ex.ret, f, s) : Ex × Fr × St)] = some a := h4
    cases h4
    simp only [List.mem_cons, List.not_mem_nil, or_false] at h5
    exact .inr h5
theorem runC_keeps : ∀ (n : Nat) (c : CCode) (fr : Fr) (s : St) (l : List (Ex × Fr × St)), c.simple = true → runC E n c fr s = some l → ∀ x ∈ l, ∀ t, t ∉ c.writes → x.2.1.get t = fr.get t
  | 0, c, fr, s, l, _, h, _, _, _, _ => by cases h
  | n + 1, c, fr, s, l, hs, h, x, hx, t, ht => by
    have ih := runC_keeps n
    have h : (stepC c).run E (runC E n) fr s = some l := h
    have one : ∀ {e : Ex}, some [((e, fr, s) : Ex × Fr × St)] = some l → x.2.1.get t = fr.get t := by
      intro e h
      cases h
      simp only [List.mem_cons, List.not_mem_nil, or_false] at hx
      subst hx; rfl
    cases c with
    | skip => exact one h
    | exit j => exact one h
    | ret => exact one h
    | no => cases h
    | mapRange => cases hs
    | rangeFunc => cases hs
    | region news ops =>
      obtain ⟨r, h1, rfl⟩ := om_eq.1 (show om (runOps (one1 (callF E (runC E n))) noRound s.next ops fr (s.skip news)) (fun r => [(Ex.normal, r.1, r.2)]) = some l from h)
      simp only [List.mem_cons, List.not_mem_nil, or_false] at hx
      subst hx
      exact runOps_keeps h1 t ht
    | many news ops =>
      obtain ⟨r, h1, rfl⟩ := om_eq.1 (show om (runOpsL (callF E (runC E n)) (roundF (runC E n) E.res) s.next ops fr (s.skip news)) (fun l => mapL (fun r => (Ex.normal, r.1, r.2)) l) = some l from h)
      rw [mapL_eq, List.mem_map] at hx
      obtain ⟨y, hy, rfl⟩ := hx
      exact runOpsL_keeps h1 y hy t ht
    | seq a b =>
      have hs : (a.simple && b.simple) = true := hs
      rw [Bool.and_eq_true] at hs
      have ht : t ∉ a.writes ++ b.writes := ht
      rw [List.mem_append] at ht
      obtain ⟨l0, h1, y, hy, hc⟩ := kSeq_mem (show kSeq (runC E n) b (runC E n a fr s) = some l from h) x hx
      have k1 := ih a fr s l0 hs.1 h1 y hy t fun k => ht (.inl k)
      rcases hc with ⟨_, m, h2, h3⟩ | rfl
      · rw [ih b _ _ m hs.2 h2 x h3 t fun k => ht (.inr k), k1]
      · exact k1
    | cond c a b =>
      have hs : (a.simple && b.simple) = true := hs
      rw [Bool.and_eq_true] at hs
      have ht : t ∉ a.writes ++ b.writes := ht
      rw [List.mem_append] at ht
      obtain ⟨q, _, h2⟩ := ob_eq.1 (show ob (asBool (c.ev fr)) (fun x => cnd x (runC E n a fr s) (runC E n b fr s)) = some l from h)
      cases q with
      | true => exact ih a fr s l hs.1 h2 x hx t fun k => ht (.inl k)
      | false => exact ih b fr s l hs.2 h2 x hx t fun k => ht (.inr k)
    | block id b =>
      obtain ⟨l0, h1, rfl⟩ := om_eq.1 (show om (runC E n b fr s) (fun l => mapL (blockEx id) l) = some l from h)
      rw [mapL_eq, List.mem_map] at hx
      obtain ⟨y, hy, rfl⟩ := hx
      have e : (blockEx id y).2 = y.2 := by
        obtain ⟨e, f, s⟩ := y
        cases e with
        | exit j =>
          show (cnd (Nat.beq id j) (Ex.normal, f, s) (Ex.exit j, f, s)).2 = _
          cases Nat.beq id j <;> rfl
        | _ => rfl
      rw [e]
      exact ih b fr s l0 hs h1 y hy t ht
    | loop b =>
      obtain ⟨l0, h1, y, hy, hc⟩ := kSeq_mem (show kSeq (runC E n) (.loop b) (runC E n b fr s) = some l from h) x hx
      have k1 := ih b fr s l0 hs h1 y hy t ht
      rcases hc with ⟨_, m, h2, h3⟩ | rfl
      · rw [ih (.loop b) _ _ m hs h2 x h3 t ht, k1]
      · exact k1
variable {fr : Fr} {s : St} {Q : Ex → Fr → St → Prop}
theorem W.cut {c : CCode} {P : Ex → Fr → St → Prop} (h : W E c fr s P) (hs : c.simple = true) (k : ∀ e fr' s', P e fr' s' → (∀ t, t ∉ c.writes → fr'.get t = fr.get t) → Q e fr' s') : W E c fr s Q := by
  obtain ⟨n, e, fr', s', h1, h2⟩ := h
  exact ⟨n, e, fr', s', h1, k _ _ _ h2 fun t ht => runC_keeps n c fr s _ hs h1 (e, fr', s') (by simp) t ht⟩
end
section
variable {E : Env} {fr : Fr} {s : St} {b : Nat} {Q : Fr → St → Prop} {d : Option Nat} {op : Cop} {t : Option Nat} {x : Bool} {ix : Nat} {ops : List COper}
theorem Wo_gen {T : List (Nat × Value)} (h : ∀ p ∈ T, fr.get p.1 = some p.2) (k : ∀ fr', (∀ p ∈ T, fr'.get p.1 = some p.2) → Wo E b ops fr' s Q) : Wo E b ops fr s Q := k fr h
theorem W_gen {c : CCode} {Q : Ex → Fr → St → Prop} {T : List (Nat × Value)} (h : ∀ p ∈ T, fr.get p.1 = some p.2) (k : ∀ fr', (∀ p ∈ T, fr'.get p.1 = some p.2) → W E c fr' s Q) : W E c fr s Q := k fr h
theorem all_nil {fr : Fr} : ∀ p ∈ ([] : List (Nat × Value)), fr.get p.1 = some p.2 := fun _ h => by cases h
theorem all_cons {fr : Fr} {t : Nat} {v : Value} {T : List (Nat × Value)} (h : fr.get t = some v) (k : ∀ p ∈ T, fr.get p.1 = some p.2) : ∀ p ∈ (t, v) :: T, fr.get p.1 = some p.2 := by
  intro p hp
  rcases List.mem_cons.1 hp with rfl | hp
  · exact h
  · exact k p hp
theorem Wo_gt (hw : wanted (t, x) fr = true) (h : Wo E b (⟨d, op, none, ix, []⟩ :: ops) fr s Q) : Wo E b (⟨d, op, some (t, x), ix, []⟩ :: ops) fr s Q := Wo_guard hw (by rw [if_pos rfl]; exact h)
theorem Wo_gf (hw : wanted (t, x) fr = false) (h : Wo E b ops (putD fr d undef) s Q) : Wo E b (⟨d, op, some (t, x), ix, []⟩ :: ops) fr s Q := Wo_guard hw (by rw [if_neg Bool.false_ne_true]; exact h)
end
end
end Go.Ev

namespace Go.Ev
noncomputable section
structure Boxed (lo : Nat) (s s' : St) (a : Nat) (cs : List Value) : Prop where
  low : Low lo s s'
  ge : lo ≤ a
  lt : a < s'.next
  at_ : ∃ es, s'.get a = some (.cells cs es .ex)
section
variable {lo lo2 a b i n : Nat} {s s' t : St} {cs vs : List Value}
theorem Boxed.cell (h : Boxed lo s s' a cs) : s'.cell ⟨a, i, none⟩ = cs[i]? := by
  obtain ⟨es, h⟩ := h.at_
  show ob (asCells (s'.get a)) _ = _
  rw [h]
  exact nthL_eq _ _
theorem Boxed.row (h : Boxed lo s s' a cs) (hn : n = cs.length) : s'.row ⟨a, 0, none⟩ n = some cs := by
  subst hn
  obtain ⟨es, h⟩ := h.at_
  exact row_iff.2 ⟨cs, es, .ex, h, by simp, by simp⟩
theorem Boxed.part (h : Boxed lo s s' a cs) (hn : i + n ≤ cs.length) : s'.row ⟨a, i, none⟩ n = some ((cs.drop i).take n) := by
  obtain ⟨es, h⟩ := h.at_
  exact row_iff.2 ⟨cs, es, .ex, h, hn, rfl⟩
theorem Boxed.next (h : Boxed lo s s' a cs) (k : Low lo2 s' t) (hl : a < lo2) (hlo : lo ≤ lo2) : Boxed lo s t a cs :=
  ⟨h.low.trans (k.weak hlo), h.ge, Nat.lt_of_lt_of_le h.lt k.2.1, by obtain ⟨es, h⟩ := h.at_; exact ⟨es, by rw [k.2.2 a hl]; exact h⟩⟩
theorem Boxed.go (h : Boxed lo s s' a cs) (k : Low s'.next s' t) : Boxed lo s t a cs := h.next k h.lt h.low.le
theorem boxed_set (s : St) (n es : Nat) (cs : List Value) (h : 0 < n) : Boxed s.next s ((s.skip n).set s.next (.cells cs es .ex)) s.next cs :=
  ⟨((Low.self s).skip n).set (Nat.le_refl _) _, Nat.le_refl _, by rw [St.next_set, next_skip]; omega, es, St.get_set_same _ _ _⟩
theorem Boxed.put {o : Nat} (h : Boxed lo s s' a cs) (hl : o + vs.length ≤ cs.length) : ∃ t, s'.put ⟨a, o, none⟩ vs = some t ∧ Boxed lo s t a (splice cs o vs) ∧ t.next = s'.next ∧ ∀ b, b ≠ a → t.get b = s'.get b := by
  obtain ⟨es, h1⟩ := h.at_
  refine ⟨s'.set a (.cells (splice cs o vs) es .ex), ?_, ⟨h.low.set h.ge _, h.ge, h.lt, es, St.get_set_same _ _ _⟩, rfl, fun b hb => St.get_set_ne _ _ (Ne.symm hb)⟩
  show ob (asCells (s'.get a)) (fun c => must c.2.2.writes (must (Nat.ble (o + lenL vs) (lenL c.1)) (some (s'.set a (.cells (splice c.1 o vs) c.2.1 c.2.2))))) = _
  rw [h1]
  show must true (must (Nat.ble (o + lenL vs) (lenL cs)) _) = _
  rw [must_true, lenL_eq, lenL_eq, Nat.ble_eq_true_of_le hl, must_true]
end
section
variable {E : Env} {fr : Fr} {s0 s : St} {b lo : Nat} {Q : Fr → St → Prop} {ops : List COper} {d : Option Nat} {ix : Nat}
theorem Wo_alloc {T : Nat} {z : List Value} (hlo : Low lo s0 s) (hl : lo ≤ b + ix) (hb : b + ix < s.next)
    (k : ∀ s', Boxed lo s0 s' (b + ix) z → s'.next = s.next → (∀ c, c ≠ b + ix → s'.get c = s.get c) → Wo E b ops (putD fr d (ptr (b + ix) 0)) s' Q) : Wo E b (⟨d, .alloc T z, none, ix, []⟩ :: ops) fr s Q :=
  Wo_op (v := ptr (b + ix) 0) (s' := s.set (b + ix) (.cells z (tag T 0) .ex)) (st_alloc T z) (k _ ⟨hlo.set hl _, hl, hb, _, St.get_set_same _ _ _⟩ rfl fun c hc => St.get_set_ne _ _ (Ne.symm hc))
theorem Wo_box {T : Nat} {x : Arg} {v : Value} {z : List Value} (hx : x.ev fr = v) (hs : storable v = true) (hv : vcells v = z) (hlo : Low lo s0 s) (hl : lo ≤ b + ix) (hb : b + ix < s.next)
    (k : ∀ s', Boxed lo s0 s' (b + ix) z → s'.next = s.next → (∀ c, c ≠ b + ix → s'.get c = s.get c) → Wo E b ops (putD fr d (ptr (b + ix) 0)) s' Q) : Wo E b (⟨d, .box T x, none, ix, []⟩ :: ops) fr s Q :=
  Wo_op (v := ptr (b + ix) 0) (s' := s.set (b + ix) (.cells z 0 .ex)) (by rw [st_box, hx, hs, hv]; rfl) (k _ ⟨hlo.set hl _, hl, hb, _, St.get_set_same _ _ _⟩ rfl fun c hc => St.get_set_ne _ _ (Ne.symm hc))
end
theorem res_cell {fr : Fr} {s : St} {a n b : Nat} {cs : List Value} {l : List CRes} {r : List Value} (h : fr.get a = some (ptr b 0)) (hr : s.row ⟨b, 0, none⟩ n = some cs) (hl : optL (oneRes fr s) l = some r) : optL (oneRes fr s) (.cell a true n :: l) = some (.agg ⟨cs⟩ :: r) := by
  rw [optL_cons]
  have : oneRes fr s (.cell a true n) = some (.agg ⟨cs⟩) := by
    show ob (asAddr (orUndef (fr.get a))) (fun a => cnd true (om (s.row a n) fun l => Value.agg ⟨l⟩) (s.cell a)) = _
    rw [h, orUndef_some, asAddr_ptr, ob_some, cnd_true, hr, om_some]
  rw [this, ob_some, hl]; rfl
theorem vcells_int (k : IntKind) (n : Int) : vcells (.int k n) = [.int k n] := rfl
theorem vcells_bool (b : Bool) : vcells (.bool b) = [.bool b] := rfl
theorem vcells_str (l : List UInt8) : vcells (strOf l) = [strOf l] := rfl
theorem vcells_slice (p : Option Addr) (n c : Nat) : vcells (.slice p n c) = [.slice p n c] := rfl
theorem vcells_ptr (p : Option Addr) : vcells (.pointer p) = [.pointer p] := rfl
theorem vcells_agg (l : List Value) : vcells (.agg ⟨l⟩) = l := rfl
theorem stor_int (k : IntKind) (n : Int) : storable (.int k n) = true := rfl
theorem stor_bool (b : Bool) : storable (.bool b) = true := rfl
theorem stor_str (l : List UInt8) : storable (strOf l) = true := rfl
theorem stor_slice (p : Option Addr) (n c : Nat) : storable (.slice p n c) = true := rfl
theorem stor_ptr (p : Option Addr) : storable (.pointer p) = true := rfl
theorem stor_agg (l : List Value) : storable (.agg ⟨l⟩) = true := rfl
theorem len_one (v : Value) : Nat.beq (lenL [v]) 1 = true := rfl
end
end Go.Ev

namespace Go.Ev
theorem sim : type_of% (And.intro @skip_zero <| And.intro @ops_plain <| And.intro @ops_nil <| And.intro @ev_t <| And.intro @ev_c <| And.intro @orUndef_some <| And.intro @putD_some <| And.intro @putD_none <| And.intro @Tr.get_set <| And.intro @ob_some <| And.intro @om_some <| And.intro @evL_nil <| And.intro @evL_cons <| And.intro @evP_nil <| And.intro @evP_cons <| And.intro @evO_none <| And.intro @evO_some <| And.intro @st_mov <| And.intro @st_pick <| And.intro @st_bin <| And.intro @st_un <| And.intro @st_eqBool <| And.intro @st_eqNil <| And.intro @st_eqCells <| And.intro @st_convI <| And.intro @st_convSB <| And.intro @st_convBS <| And.intro @st_same <| And.intro @st_box <| And.intro @st_alloc <| And.intro @st_build <| And.intro @st_buildSlice <| And.intro @st_load1 <| And.intro @st_loadN <| And.intro @st_store <| And.intro @st_nilCheck <| And.intro @st_iface <| And.intro @st_mkFunc <| And.intro @st_mkSlice <| And.intro @st_sliceS <| And.intro @st_sliceV <| And.intro @st_faddr <| And.intro @st_iaddrA <| And.intro @st_iaddrV <| And.intro @st_fieldV <| And.intro @st_idxS <| And.intro @st_extract <| And.intro @st_lenC <| And.intro @st_lenS <| And.intro @st_lenV <| And.intro @st_append <| And.intro @st_callF <| And.intro @st_callV <| And.intro @st_capV <| And.intro @st_appendZ <| And.intro @st_eqPtrNil <| And.intro @asInt_int <| And.intro @asStr_strOf <| And.intro @asBool_bool <| And.intro @asPtr_pointer <| And.intro @asAddr_pointer <| And.intro @asAgg_agg <| And.intro @asTup_tuple <| And.intro @asSl_slice <| And.intro @asNat_int <| And.intro @cnd_true <| And.intro @cnd_false <| And.intro @must_true <| And.intro @tf_false <| And.intro @tf_true <| And.intro @bin_lss <| And.intro @bin_gtr <| And.intro @bin_leq <| And.intro @bin_geq <| And.intro @bin_eqlI <| And.intro @bin_neqI <| And.intro @bin_add <| And.intro @bin_sub <| And.intro @bin_mul <| And.intro @bin_eqlS <| And.intro @bin_neqS <| And.intro @un_not <| And.intro @num_int <| And.intro @ofByte_int <| And.intro @ptr_pointer <| And.intro @sl_slice <| And.intro @ops_guard_t <| And.intro @ops_guard_f <| And.intro @wanted_some <| And.intro @wantB_tt <| And.intro @wantB_tf <| And.intro @wantB_ft <| And.intro @wantB_ff <| And.intro @vcells_int <| And.intro @vcells_bool <| And.intro @vcells_str <| And.intro @vcells_slice <| And.intro @vcells_ptr <| And.intro @vcells_agg <| And.intro @stor_int <| And.intro @stor_bool <| And.intro @stor_str <| And.intro @stor_slice <| And.intro @stor_ptr <| And.intro @stor_agg <| And.intro @len_one <| And.intro @cell_skip <| And.intro @row_skip <| And.intro @asStr_string <| @add_eq) := And.intro @skip_zero <| And.intro @ops_plain <| And.intro @ops_nil <| And.intro @ev_t <| And.intro @ev_c <| And.intro @orUndef_some <| And.intro @putD_some <| And.intro @putD_none <| And.intro @Tr.get_set <| And.intro @ob_some <| And.intro @om_some <| And.intro @evL_nil <| And.intro @evL_cons <| And.intro @evP_nil <| And.intro @evP_cons <| And.intro @evO_none <| And.intro @evO_some <| And.intro @st_mov <| And.intro @st_pick <| And.intro @st_bin <| And.intro @st_un <| And.intro @st_eqBool <| And.intro @st_eqNil <| And.intro @st_eqCells <| And.intro @st_convI <| And.intro @st_convSB <| And.intro @st_convBS <| And.intro @st_same <| And.intro @st_box <| And.intro @st_alloc <| And.intro @st_build <| And.intro @st_buildSlice <| And.intro @st_load1 <| And.intro @st_loadN <| And.intro @st_store <| And.intro @st_nilCheck <| And.intro @st_iface <| And.intro @st_mkFunc <| And.intro @st_mkSlice <| And.intro @st_sliceS <| And.intro @st_sliceV <| And.intro @st_faddr <| And.intro @st_iaddrA <| And.intro @st_iaddrV <| And.intro @st_fieldV <| And.intro @st_idxS <| And.intro @st_extract <| And.intro @st_lenC <| And.intro @st_lenS <| And.intro @st_lenV <| And.intro @st_append <| And.intro @st_callF <| And.intro @st_callV <| And.intro @st_capV <| And.intro @st_appendZ <| And.intro @st_eqPtrNil <| And.intro @asInt_int <| And.intro @asStr_strOf <| And.intro @asBool_bool <| And.intro @asPtr_pointer <| And.intro @asAddr_pointer <| And.intro @asAgg_agg <| And.intro @asTup_tuple <| And.intro @asSl_slice <| And.intro @asNat_int <| And.intro @cnd_true <| And.intro @cnd_false <| And.intro @must_true <| And.intro @tf_false <| And.intro @tf_true <| And.intro @bin_lss <| And.intro @bin_gtr <| And.intro @bin_leq <| And.intro @bin_geq <| And.intro @bin_eqlI <| And.intro @bin_neqI <| And.intro @bin_add <| And.intro @bin_sub <| And.intro @bin_mul <| And.intro @bin_eqlS <| And.intro @bin_neqS <| And.intro @un_not <| And.intro @num_int <| And.intro @ofByte_int <| And.intro @ptr_pointer <| And.intro @sl_slice <| And.intro @ops_guard_t <| And.intro @ops_guard_f <| And.intro @wanted_some <| And.intro @wantB_tt <| And.intro @wantB_tf <| And.intro @wantB_ft <| And.intro @wantB_ff <| And.intro @vcells_int <| And.intro @vcells_bool <| And.intro @vcells_str <| And.intro @vcells_slice <| And.intro @vcells_ptr <| And.intro @vcells_agg <| And.intro @stor_int <| And.intro @stor_bool <| And.intro @stor_str <| And.intro @stor_slice <| And.intro @stor_ptr <| And.intro @stor_agg <| And.intro @len_one <| And.intro @cell_skip <| And.intro @row_skip <| And.intro @asStr_string <| @add_eq
theorem sims : type_of% (And.intro @sim <| And.intro @if_true.{1} <| And.intro @if_false.{1} <| And.intro @eq_self.{1} <| And.intro @Bool.false_eq_true <| And.intro @decide_true <| And.intro @decide_false <| And.intro @Bool.not_true <| And.intro @Bool.not_false <| And.intro @Nat.mul_one <| And.intro @Nat.zero_add <| And.intro @Nat.add_zero <| And.intro @Option.isNone_none.{0} <| @Option.isNone_some.{0}) := And.intro @sim <| And.intro @if_true.{1} <| And.intro @if_false.{1} <| And.intro @eq_self.{1} <| And.intro @Bool.false_eq_true <| And.intro @decide_true <| And.intro @decide_false <| And.intro @Bool.not_true <| And.intro @Bool.not_false <| And.intro @Nat.mul_one <| And.intro @Nat.zero_add <| And.intro @Nat.add_zero <| And.intro @Option.isNone_none.{0} <| @Option.isNone_some.{0}
end Go.Ev

namespace Go.Ev
open Int renaming reduceEq → rI
open Nat renaming reduceEqDiff → rN
noncomputable section
def sumStep (acc c : Nat) : Nat := Nat.add (Nat.mod (Nat.mul (Nat.mod (Nat.add acc c) 65536) 2) 65536) (Nat.div (Nat.mod (Nat.add acc c) 65536) 32768)
def sumL (l : List UInt8) : Nat → Nat := List.rec (motive := fun _ => Nat → Nat) (fun acc => acc) (fun c _ go acc => go (sumStep acc c.toNat)) l
def sumOf (l : List UInt8) : Int := cnd (Nat.beq (sumL l 0) 0) 65535 (Int.ofNat (sumL l 0))
def byteX (v : Value) : Option UInt8 := ob (asInt v) fun a => must (kEq a.1 .u8) (must (fits .u8 a.2) (some (UInt8.ofNat a.2.toNat)))
def pSum : Prim := args1 fun x s => ob (asSl x) fun p => Option.rec (must (Nat.beq p.2.1 0) (some (num (sumOf []), s))) (fun a => must (Nat.ble p.2.1 1000000) (ob (s.row a p.2.1) fun l => om (optL byteX l) fun l => (num (sumOf l), s))) p.1
def sumCode : CFunc := ⟨26,
 (.seq
 (.region 0 [⟨(some 2), .mov (.c (.int .i64 0)), none, 0, []⟩])
 (.seq
 (.region 0 [⟨(some 3), .mov (.c (.int .u16 0)), none, 0, []⟩])
 (.seq
 (.seq
  (.region 0 [⟨(some 6), .mov (.t 0), none, 0, []⟩,
      ⟨(some 7), .lenV (.t 6), none, 1, []⟩,
      ⟨(some 8), .mov (.c (.int .i64 0)), none, 2, []⟩])
  (.block 0
   (.loop
     (.seq
      (.region 0 [⟨(some 9), .bin .lss (.t 8) (.t 7), none, 0, []⟩])
      (.seq
      (.cond (.t 9)
        (.skip)
        (.exit 0))
      (.seq
      (.block 1
        (.seq
         (.region 0 [⟨(some 10), .iaddrV 1 (.t 6) (.t 8), none, 0, []⟩,
             ⟨(some 11), .load1 (.t 10), none, 1, []⟩,
             ⟨(some 5), .mov (.t 11), none, 2, []⟩])
         (.seq
         (.region 0 [⟨(some 12), .mov (.t 3), none, 0, []⟩,
             ⟨(some 13), .mov (.t 5), none, 1, []⟩,
             ⟨(some 14), .convI .u16 (.t 13), none, 2, []⟩,
             ⟨(some 15), .bin .add (.t 12) (.t 14), none, 3, []⟩,
             ⟨(some 3), .mov (.t 15), none, 4, []⟩])
         (.region 0 [⟨(some 16), .mov (.t 3), none, 0, []⟩,
            ⟨(some 17), .bin .shl (.t 16) (.c (.int .u64 1)), none, 1, []⟩,
            ⟨(some 18), .mov (.t 3), none, 2, []⟩,
            ⟨(some 19), .bin .shr (.t 18) (.c (.int .u64 15)), none, 3, []⟩,
            ⟨(some 20), .bin .or (.t 17) (.t 19), none, 4, []⟩,
            ⟨(some 3), .mov (.t 20), none, 5, []⟩]))))
      (.region 0 [⟨(some 21), .bin .add (.t 8) (.c (.int .i64 1)), none, 0, []⟩,
         ⟨(some 8), .mov (.t 21), none, 1, []⟩])))))))
 (.seq
 (.seq
  (.region 0 [⟨(some 22), .mov (.t 3), none, 0, []⟩,
      ⟨(some 23), .bin .eql (.t 22) (.c (.int .u16 0)), none, 1, []⟩])
  (.cond (.t 23)
   (.seq
    (.region 0 [⟨(some 2), .mov (.c (.int .i64 65535)), none, 0, []⟩])
    (.ret))
   (.skip)))
 (.seq
 (.region 0 [⟨(some 24), .mov (.t 3), none, 0, []⟩,
     ⟨(some 25), .convI .i64 (.t 24), none, 1, []⟩,
     ⟨(some 2), .mov (.t 25), none, 2, []⟩])
 (.ret)))))),
 [.tmp 2]⟩
theorem sumStep_lt (acc c : Nat) : sumStep acc c < 65536 := by
  show (acc + c) % 65536 * 2 % 65536 + (acc + c) % 65536 / 32768 < 65536
  omega
theorem sumL_cons (c : UInt8) (l : List UInt8) (acc : Nat) : sumL (c :: l) acc = sumL l (sumStep acc c.toNat) := rfl
theorem sumL_lt : ∀ (l : List UInt8) (acc : Nat), acc < 65536 → sumL l acc < 65536
  | [], _, h => h
  | c :: l, acc, _ => by rw [sumL_cons]; exact sumL_lt l _ (sumStep_lt _ _)
theorem wr_u16 (n : Nat) : wr .u16 (n : Int) = ((n % 65536 : Nat) : Int) := by
  unfold wr
  rw [cnd_eq]
  split
  · rename_i h
    have h : (Bool.rec false (iLe (n : Int) 65535) (iLe 0 (n : Int)) : Bool) = true := h
    rw [iLe_eq, iLe_eq, show decide ((0 : Int) ≤ (n : Int)) = true from by simp] at h
    have h : decide ((n : Int) ≤ 65535) = true := h
    rw [decide_eq_true_eq] at h
    rw [Nat.mod_eq_of_lt (by omega)]
  · show ((BitVec.ofInt 16 n).toNat : Int) = _
    rw [BitVec.toNat_ofInt]
    omega
theorem turn_u16 (x : Nat) (hx : x < 65536) : binOp .or (.int .u16 ((x * 2 % 65536 : Nat) : Int)) (.int .u16 ((x / 32768 : Nat) : Int)) = some (.int .u16 ((x * 2 % 65536 + x / 32768 : Nat) : Int)) := by
  rw [bin_int rfl]
  show some (Value.int .u16 (wr .u16 ((BitVec.ofInt 16 _ ||| BitVec.ofInt 16 _).toNat : Int))) = _
  congr 2
  have e : (BitVec.ofInt 16 ((x * 2 % 65536 : Nat) : Int) ||| BitVec.ofInt 16 ((x / 32768 : Nat) : Int)).toNat = x * 2 % 65536 + x / 32768 := by
    rw [BitVec.toNat_or, BitVec.toNat_ofInt, BitVec.toNat_ofInt]
    have h1 : ((((x * 2 % 65536 : Nat) : Int)) % ((2 ^ 16 : Nat) : Int)).toNat = x * 2 % 65536 := by omega
    have h2 : ((((x / 32768 : Nat) : Int)) % ((2 ^ 16 : Nat) : Int)).toNat = x / 32768 := by omega
    rw [h1, h2]
    have h3 : x * 2 % 65536 = 2 * (x % 32768) := by omega
    have h4 : x / 32768 < 2 := by omega
    rw [h3]
    have h5 := Nat.two_pow_add_eq_or_of_lt (i := 1) (b := x / 32768) (by omega) (x % 32768)
    rw [show 2 ^ 1 * (x % 32768) = 2 * (x % 32768) from rfl] at h5
    exact h5.symm
  rw [e, wr_u16, Nat.mod_eq_of_lt (by omega)]
theorem shl_u16 (x : Nat) : binOp .shl (.int .u16 (x : Int)) (.int .u64 1) = some (.int .u16 ((x * 2 % 65536 : Nat) : Int)) := by
  show some (Value.int .u16 (wr .u16 ((x : Int) * 2))) = _
  rw [show ((x : Int) * 2) = ((x * 2 : Nat) : Int) from by omega, wr_u16]
theorem shr_u16 (x : Nat) : binOp .shr (.int .u16 (x : Int)) (.int .u64 15) = some (.int .u16 ((x / 32768 : Nat) : Int)) := by
  show some (Value.int .u16 ((x : Int).fdiv 32768)) = _
  rw [Int.fdiv_eq_ediv_of_nonneg _ (by omega)]
  rfl
def sumBody : CCode := (.seq
      (.region 0 [⟨(some 9), .bin .lss (.t 8) (.t 7), none, 0, []⟩])
      (.seq
      (.cond (.t 9)
        (.skip)
        (.exit 0))
      (.seq
      (.block 1
        (.seq
         (.region 0 [⟨(some 10), .iaddrV 1 (.t 6) (.t 8), none, 0, []⟩,
             ⟨(some 11), .load1 (.t 10), none, 1, []⟩,
             ⟨(some 5), .mov (.t 11), none, 2, []⟩])
         (.seq
         (.region 0 [⟨(some 12), .mov (.t 3), none, 0, []⟩,
             ⟨(some 13), .mov (.t 5), none, 1, []⟩,
             ⟨(some 14), .convI .u16 (.t 13), none, 2, []⟩,
             ⟨(some 15), .bin .add (.t 12) (.t 14), none, 3, []⟩,
             ⟨(some 3), .mov (.t 15), none, 4, []⟩])
         (.region 0 [⟨(some 16), .mov (.t 3), none, 0, []⟩,
            ⟨(some 17), .bin .shl (.t 16) (.c (.int .u64 1)), none, 1, []⟩,
            ⟨(some 18), .mov (.t 3), none, 2, []⟩,
            ⟨(some 19), .bin .shr (.t 18) (.c (.int .u64 15)), none, 3, []⟩,
            ⟨(some 20), .bin .or (.t 17) (.t 19), none, 4, []⟩,
            ⟨(some 3), .mov (.t 20), none, 5, []⟩]))))
      (.region 0 [⟨(some 21), .bin .add (.t 8) (.c (.int .i64 1)), none, 0, []⟩,
         ⟨(some 8), .mov (.t 21), none, 1, []⟩]))))
theorem sum_loop {E : Env} {s : St} {pa : Option Addr} {c0 : Nat} {cs : List UInt8} (hrow : ∀ i (h : i < cs.length), ∃ a, pa = some a ∧ s.cell (a.add i) = some (ofByte cs[i])) (hn : cs.length ≤ 9223372036854775806) {Q : Ex → Fr → St → Prop} (hq : ∀ fr, fr.get 3 = some (.int .u16 (sumL cs 0 : Nat)) → Q (.exit 0) fr s) :
    ∀ (k : Nat) (fr : Fr) (s' : St), (s' = s ∧ ∃ i acc : Nat, k = cs.length - i ∧ i ≤ cs.length ∧ acc < 65536 ∧ sumL (cs.drop i) acc = sumL cs 0 ∧ fr.get 3 = some (.int .u16 (acc : Nat)) ∧ fr.get 6 = some (.slice pa cs.length c0) ∧ fr.get 7 = some (.int .i64 (cs.length : Nat)) ∧ fr.get 8 = some (.int .i64 (i : Nat))) → W E (.loop sumBody) fr s' Q := by
  refine W_inv _ ?_
  rintro k fr s' ⟨rfl, i, acc, rfl, hi, hacc, hsum, h3, h6, h7, h8⟩
  unfold sumBody
  refine W_seq (W_region (by simp only [sims, rI, rN, h7, h8]; rfl) ?_)
  by_cases hlt : i < cs.length
  · refine W_seq (W_cond (x := true) (by simp only [sims, rI, rN]; simp; omega) ?_)
    refine W_skip ?_
    obtain ⟨a, rfl, hc⟩ := hrow i hlt
    have hblt : Nat.blt i cs.length = true := by rw [Nat.blt_eq]; exact hlt
    refine W_seq (W_block (W_seq (W_region (by simp only [sims, rI, rN, h6, h8, hblt, hc]; rfl) ?_)))
    have e1 : wr .u16 ((cs[i].toNat : Nat) : Int) = ((cs[i].toNat : Nat) : Int) := by
      rw [wr_u16, Nat.mod_eq_of_lt (by have := cs[i].toNat_lt; omega)]
    have e2 : wr .u16 ((acc : Int) + ((cs[i].toNat : Nat) : Int)) = (((acc + cs[i].toNat) % 65536 : Nat) : Int) := by
      rw [show (acc : Int) + ((cs[i].toNat : Nat) : Int) = ((acc + cs[i].toNat : Nat) : Int) from by omega, wr_u16]
    refine W_seq (W_region (by simp only [sims, rI, rN, h3, e1, e2]; rfl) ?_)
    have e3 := shl_u16 ((acc + cs[i].toNat) % 65536)
    have e4 := shr_u16 ((acc + cs[i].toNat) % 65536)
    have e5 := turn_u16 ((acc + cs[i].toNat) % 65536) (by omega)
    refine W_region (by simp only [sims, rI, rN, e3, e4, e5]; rfl) ?_
    have e6 : wr .i64 ((i : Int) + 1) = ((i + 1 : Nat) : Int) := by rw [wr_i64 (by omega) (by omega)]; omega
    refine W_region (by simp only [sims, rI, rN, h8, e6]; rfl) ?_
    refine ⟨cs.length - (i + 1), by omega, rfl, i + 1, sumStep acc cs[i].toNat, rfl, by omega, sumStep_lt _ _, ?_, ?_, ?_, ?_, ?_⟩
    · rw [← hsum, List.drop_eq_getElem_cons hlt, sumL_cons]
    all_goals simp only [sims, rI, rN, h6, h7]; try rfl
  · refine W_seq (W_cond (x := false) (by simp only [sims, rI, rN]; simp; omega) ?_)
    refine W_exit (hq _ ?_)
    have : i = cs.length := by omega
    subst this
    rw [List.drop_length] at hsum
    simp only [sims, rI, rN, h3]
    rw [← hsum]; rfl
theorem byteX_eq {v : Value} {c : UInt8} (h : byteX v = some c) : v = ofByte c := by
  obtain ⟨a, h1, h2⟩ := ob_eq.1 h
  obtain ⟨h3, h4⟩ := must_eq.1 h2
  obtain ⟨h5, h6⟩ := must_eq.1 h4
  rw [kEq_eq] at h3
  have h3 : a.1 = .u8 := by simpa using h3
  have h5 : (Bool.rec false (iLe a.2 255) (iLe 0 a.2) : Bool) = true := h5
  rw [iLe_eq, iLe_eq] at h5
  cases h6
  rw [asInt_eq h1, h3]
  by_cases h7 : 0 ≤ a.2
  · rw [decide_eq_true h7] at h5
    have h8 : a.2 ≤ 255 := of_decide_eq_true h5
    show Value.int .u8 a.2 = .int .u8 ((UInt8.ofNat a.2.toNat).toNat : Int)
    congr 1
    rw [UInt8.toNat_ofNat']
    omega
  · rw [decide_eq_false h7] at h5; cases h5
theorem bytesX {l : List Value} {b : List UInt8} (h : optL byteX l = some b) : l = b.map ofByte := by
  induction l generalizing b with
  | nil => cases h; rfl
  | cons v l ih =>
    rw [optL_cons] at h
    obtain ⟨c, h1, h2⟩ := ob_eq.1 h
    obtain ⟨b2, h3, rfl⟩ := om_eq.1 h2
    rw [List.map_cons, ih h3, ← byteX_eq h1]
theorem sum_run {E : Env} {f : FuncId} (hf : E.code f = some sumCode) {s : St} {pa : Option Addr} {c0 : Nat} {cs : List UInt8} (hrow : ∀ i (h : i < cs.length), ∃ a, pa = some a ∧ s.cell (a.add i) = some (ofByte cs[i])) (hn : cs.length ≤ 9223372036854775806) :
    Cv E f [.slice pa cs.length c0] s fun v s' => s' = s ∧ v = num (sumOf cs) := by
  refine Cv_of hf ?_
  have h0 : (Tr.ofList (.e : Fr) 0 [Value.slice pa cs.length c0]).get 0 = some (.slice pa cs.length c0) := rfl
  generalize (Tr.ofList (.e : Fr) 0 [Value.slice pa cs.length c0]) = fr0 at h0
  unfold sumCode
  refine W_seq (W_region (by simp only [sims, rI, rN]; rfl) ?_)
  refine W_seq (W_region (by simp only [sims, rI, rN]; rfl) ?_)
  refine W_seq (W_seq (W_region (by simp only [sims, rI, rN, h0]; rfl) ?_))
  refine W_block (sum_loop (c0 := c0) hrow hn (fun fr h3 => ?_) cs.length _ _ ⟨rfl, 0, 0, by omega, by omega, by omega, by simp, ?_, ?_, ?_, ?_⟩)
  · show W E _ _ _ _
    have hs := sumL_lt cs 0 (by omega)
    refine W_seq (W_seq (W_region (by simp only [sims, rI, rN, h3]; rfl) ?_))
    by_cases hz : sumL cs 0 = 0
    · refine W_cond (x := true) (by simp only [sims, rI, rN]; simp [hz]) ?_
      refine W_seq (W_region (by simp only [sims, rI, rN]; rfl) (W_ret ?_))
      refine ⟨rfl, [_], rfl, rfl, ?_⟩
      simp only [sims, rI, rN]
      show num 65535 = _
      unfold sumOf
      rw [hz]; rfl
    · refine W_cond (x := false) (by simp only [sims, rI, rN]; simp; omega) ?_
      refine W_skip ?_
      have e1 : wr .i64 ((sumL cs 0 : Nat) : Int) = ((sumL cs 0 : Nat) : Int) := wr_i64 (by omega) (by omega)
      refine W_seq (W_region (by simp only [sims, rI, rN, h3, e1]; rfl) (W_ret ?_))
      refine ⟨rfl, [_], rfl, rfl, ?_⟩
      simp only [sims, rI, rN]
      show num (sumL cs 0 : Nat) = _
      unfold sumOf
      have : Nat.beq (sumL cs 0) 0 = false := by
        cases e : Nat.beq (sumL cs 0) 0 with
        | false => rfl
        | true => rw [Nat.beq_eq] at e; exact absurd e hz
      rw [this]; rfl
  all_goals simp only [sims, rI, rN]; try rfl
theorem isPrim_sum {P : Program} {E : Env} (hE : EnvOk P E) (hm : P.follows .mixedOrders = true) (hname : namedB P = true) {f : FuncId} (hf : E.code f = some sumCode) : IsPrim P f pSum := by
  refine isPrim_run hE hm hname fun s args v0 s0 hw hcl hp => ?_
  obtain ⟨x, rfl, h1⟩ := args1_eq hp
  obtain ⟨⟨pa, n, c⟩, h2, h3⟩ := ob_eq.1 h1
  rw [asSl_eq h2]
  have fin : ∀ cs : List UInt8, n = cs.length → n ≤ 1000000 → (∀ i (h : i < cs.length), ∃ a, pa = some a ∧ s.cell (a.add i) = some (ofByte cs[i])) → (num (sumOf cs), s) = (v0, s0) → Cv E f [.slice pa n c] s fun v s' => ∃ π, Like s s' s0 π ∧ VL π s0.next v0 v := by
    rintro cs rfl hn hrow heq
    cases heq
    obtain ⟨k, v, s', h4, h5, h6⟩ := sum_run hf (c0 := c) hrow (by omega)
    subst h5; subst h6
    exact ⟨k, _, _, h4, id, Like.same hw, .int _ _⟩
  cases pa with
  | none =>
    obtain ⟨h4, h5⟩ := must_eq.1 (show must (Nat.beq n 0) (some (num (sumOf []), s)) = some (v0, s0) from h3)
    rw [Nat.beq_eq] at h4
    cases h5
    exact fin [] h4 (by omega) (fun i h => by simp at h) rfl
  | some a =>
    obtain ⟨h4, h5⟩ := must_eq.1 (show must (Nat.ble n 1000000) (ob (s.row a n) fun l => om (optL byteX l) fun l => (num (sumOf l), s)) = some (v0, s0) from h3)
    rw [Nat.ble_eq] at h4
    obtain ⟨l, h6, h7⟩ := ob_eq.1 h5
    obtain ⟨cs, h8, h9⟩ := om_eq.1 h7
    have hl := bytesX h8
    have hlen : n = cs.length := by rw [← row_length h6, hl, List.length_map]
    refine fin cs hlen h4 (fun i h => ⟨a, rfl, ?_⟩) h9
    rw [cell_row h6 (by omega), hl, List.getElem?_map, List.getElem?_eq_getElem h]; rfl
end
end Go.Ev

namespace Go.Ev
open Int renaming reduceEq → rI
open Nat renaming reduceEqDiff → rN
noncomputable section
def noneSlCode : CFunc := ⟨13,
 (.seq
 (.region 0 ([⟨(some 2), .mov (.c (.bool false)), none, 0, []⟩]))
 (.seq
 (.region 0 ([⟨(some 3), .mov (.t 0), none, 0, []⟩,
     ⟨(some 4), .eqPtr false (.t 3) (.c (.pointer none)), none, 1, []⟩,
     ⟨(some 5), .mov (.t 4), none, 2, []⟩,
     ⟨(some 6), .mov (.t 0), (some ((some 5), false)), 3, []⟩,
     ⟨(some 7), .nilCheck (.t 6), (some ((some 5), false)), 4, []⟩,
     ⟨(some 8), .faddr 0 (.t 7), (some ((some 5), false)), 5, []⟩,
     ⟨(some 9), .load1 (.t 8), (some ((some 5), false)), 6, []⟩,
     ⟨(some 10), .lenV (.t 9), (some ((some 5), false)), 7, []⟩,
     ⟨(some 11), .bin .eql (.t 10) (.c (.int .i64 0)), (some ((some 5), false)), 8, []⟩,
     ⟨(some 12), .pick (.t 5) (.c (.bool true)) (.t 11), none, 9, []⟩,
     ⟨(some 2), .mov (.t 12), none, 10, []⟩]))
 (.ret))),
 [.tmp 2]⟩
def nonePtrCode : CFunc := ⟨12,
 (.seq
 (.region 0 ([⟨(some 2), .mov (.c (.bool false)), none, 0, []⟩]))
 (.seq
 (.region 0 ([⟨(some 3), .mov (.t 0), none, 0, []⟩,
     ⟨(some 4), .eqPtr false (.t 3) (.c (.pointer none)), none, 1, []⟩,
     ⟨(some 5), .mov (.t 4), none, 2, []⟩,
     ⟨(some 6), .mov (.t 0), (some ((some 5), false)), 3, []⟩,
     ⟨(some 7), .nilCheck (.t 6), (some ((some 5), false)), 4, []⟩,
     ⟨(some 8), .faddr 0 (.t 7), (some ((some 5), false)), 5, []⟩,
     ⟨(some 9), .load1 (.t 8), (some ((some 5), false)), 6, []⟩,
     ⟨(some 10), .eqPtr false (.t 9) (.c (.pointer none)), (some ((some 5), false)), 7, []⟩,
     ⟨(some 11), .pick (.t 5) (.c (.bool true)) (.t 10), none, 8, []⟩,
     ⟨(some 2), .mov (.t 11), none, 9, []⟩]))
 (.ret))),
 [.tmp 2]⟩
def pNoneSl : Prim := args1 fun x s => ob (asPtr x) fun a => Option.rec (some (.bool true, s)) (fun a => ob (s.cell a) fun v => om (asSl v) fun p => (.bool (Nat.beq p.2.1 0), s)) a
def pNonePtr : Prim := args1 fun x s => ob (asPtr x) fun a => Option.rec (some (.bool true, s)) (fun a => ob (s.cell a) fun v => om (asPtr v) fun p => (.bool p.isNone, s)) a
theorem add_zero (a : Addr) : a.add 0 = a := rfl
theorem noneSl_run {E : Env} {f : FuncId} (hf : E.code f = some noneSlCode) {s : St} {a : Option Addr} {b : Bool} (h : a = none ∧ b = true ∨ ∃ c p n k, a = some c ∧ s.cell c = some (.slice p n k) ∧ b = Nat.beq n 0) : Cv E f [.pointer a] s fun v s' => v = .bool b ∧ s' = s := by
  refine Cv_of hf ?_
  have h0 : (Tr.ofList (.e : Fr) 0 [.pointer a]).get 0 = some (.pointer a) := rfl
  generalize (Tr.ofList (.e : Fr) 0 [.pointer a]) = fr0 at h0
  unfold noneSlCode
  refine W_seq (W_region (by simp only [sims, rI, rN]; rfl) ?_)
  rcases h with ⟨rfl, rfl⟩ | ⟨c, p, n, k, rfl, h1, rfl⟩
  · refine W_seq (W_region (by simp only [sims, rI, rN, h0]; rfl) (W_ret ⟨rfl, [_], rfl, ?_, rfl⟩))
    simp only [sims, rI, rN, tupled]
  · have e2 : nilOk (.pointer (some c)) = true := rfl
    have e3 : decide (Int.ofNat n = 0) = Nat.beq n 0 := by
      cases e : Nat.beq n 0 with
      | true => rw [Nat.beq_eq] at e; simp [e]
      | false => simp; intro h; subst h; cases e
    refine W_seq (W_region (by simp only [sims, rI, rN, h0, e2, add_zero, h1, e3]; rfl) (W_ret ⟨rfl, [_], rfl, ?_, rfl⟩))
    simp only [sims, rI, rN, tupled]
theorem nonePtr_run {E : Env} {f : FuncId} (hf : E.code f = some nonePtrCode) {s : St} {a : Option Addr} {b : Bool} (h : a = none ∧ b = true ∨ ∃ c p, a = some c ∧ s.cell c = some (.pointer p) ∧ b = p.isNone) : Cv E f [.pointer a] s fun v s' => v = .bool b ∧ s' = s := by
  refine Cv_of hf ?_
  have h0 : (Tr.ofList (.e : Fr) 0 [.pointer a]).get 0 = some (.pointer a) := rfl
  generalize (Tr.ofList (.e : Fr) 0 [.pointer a]) = fr0 at h0
  unfold nonePtrCode
  refine W_seq (W_region (by simp only [sims, rI, rN]; rfl) ?_)
  rcases h with ⟨rfl, rfl⟩ | ⟨c, p, rfl, h1, rfl⟩
  · refine W_seq (W_region (by simp only [sims, rI, rN, h0]; rfl) (W_ret ⟨rfl, [_], rfl, ?_, rfl⟩))
    simp only [sims, rI, rN, tupled]
  · have e2 : nilOk (.pointer (some c)) = true := rfl
    refine W_seq (W_region (by simp only [sims, rI, rN, h0, e2, add_zero, h1]; rfl) (W_ret ⟨rfl, [_], rfl, ?_, rfl⟩))
    simp only [sims, rI, rN, tupled]
section
variable {P : Program} {E : Env} {f : FuncId}
theorem isPrim_still (hE : EnvOk P E) (hm : P.follows .mixedOrders = true) (hname : namedB P = true) {p : Prim} (h : ∀ args s v s', p args s = some (v, s') → (∃ b, v = .bool b) ∧ s' = s ∧ Cv E f args s fun u t => u = v ∧ t = s) : IsPrim P f p := by
  refine isPrim_run hE hm hname fun s args v0 s0 hw hcl hp => ?_
  obtain ⟨⟨b, rfl⟩, h2, h3⟩ := h args s v0 s0 hp
  refine h3.mono fun u t ⟨e1, e2⟩ => ?_
  rw [e1, e2, h2]
  exact ⟨id, Like.same hw, .bool _⟩
theorem isPrim_noneSl (hE : EnvOk P E) (hm : P.follows .mixedOrders = true) (hname : namedB P = true) (hf : E.code f = some noneSlCode) : IsPrim P f pNoneSl := by
  refine isPrim_still hE hm hname fun args s v s' hp => ?_
  obtain ⟨x, rfl, h1⟩ := args1_eq hp
  obtain ⟨a, h2, h3⟩ := ob_eq.1 h1
  rw [asPtr_eq h2]
  cases a with
  | none =>
    have h3 : some (Value.bool true, s) = some (v, s') := h3
    cases h3
    exact ⟨⟨_, rfl⟩, rfl, noneSl_run hf (.inl ⟨rfl, rfl⟩)⟩
  | some a =>
    obtain ⟨c, h4, h5⟩ := ob_eq.1 (show ob (s.cell a) (fun v => om (asSl v) fun p => (Value.bool (Nat.beq p.2.1 0), s)) = some (v, s') from h3)
    obtain ⟨p, h6, h7⟩ := om_eq.1 h5
    cases h7
    exact ⟨⟨_, rfl⟩, rfl, noneSl_run hf (.inr ⟨a, p.1, p.2.1, p.2.2, rfl, by rw [h4, asSl_eq h6], rfl⟩)⟩
theorem isPrim_nonePtr (hE : EnvOk P E) (hm : P.follows .mixedOrders = true) (hname : namedB P = true) (hf : E.code f = some nonePtrCode) : IsPrim P f pNonePtr := by
  refine isPrim_still hE hm hname fun args s v s' hp => ?_
  obtain ⟨x, rfl, h1⟩ := args1_eq hp
  obtain ⟨a, h2, h3⟩ := ob_eq.1 h1
  rw [asPtr_eq h2]
  cases a with
  | none =>
    have h3 : some (Value.bool true, s) = some (v, s') := h3
    cases h3
    exact ⟨⟨_, rfl⟩, rfl, nonePtr_run hf (.inl ⟨rfl, rfl⟩)⟩
  | some a =>
    obtain ⟨c, h4, h5⟩ := ob_eq.1 (show ob (s.cell a) (fun v => om (asPtr v) fun p => (Value.bool p.isNone, s)) = some (v, s') from h3)
    obtain ⟨p, h6, h7⟩ := om_eq.1 h5
    cases h7
    exact ⟨⟨_, rfl⟩, rfl, nonePtr_run hf (.inr ⟨a, p, rfl, by rw [h4, asPtr_eq h6], rfl⟩)⟩
end
end
end Go.Ev

namespace Go.Ev
noncomputable section
def isSeq (c : CCode) : Bool := match c with | .seq _ _ => true | _ => false
def sndN (j : Nat) (c : CCode) : CCode := Nat.rec (motive := fun _ => CCode → CCode) (fun c => c) (fun _ go c => go c.snd) j c
def headC (E : Env) (N j : Nat) : CCode → Fr → St → Option (Fr × St) :=
  Nat.rec (motive := fun _ => CCode → Fr → St → Option (Fr × St)) (fun _ fr s => some (fr, s))
    (fun _ go c fr s => must (isSeq c) (ob (oneL (runC E N c.fst fr s)) fun x => cnd (isNormal x.1) (go c.snd x.2.1 x.2.2) none)) j
def iterC (E : Env) (N : Nat) (body : CCode) (k : Nat) : Fr → St → Option (Fr × St) :=
  Nat.rec (motive := fun _ => Fr → St → Option (Fr × St)) (fun fr s => some (fr, s))
    (fun _ go fr s => ob (oneL (runC E N body fr s)) fun x => cnd (isNormal x.1) (go x.2.1 x.2.2) none) k
def CCode.inner (c : CCode) : CCode := match c with | .block _ b => b | .loop b => b | _ => .no
section
variable {E : Env} {N : Nat} {fr fr' : Fr} {s s' : St} {Q : Ex → Fr → St → Prop}
theorem one_normal {c : CCode} {g : Fr → St → Option (Fr × St)} {y : Fr × St} (h : ob (oneL (runC E N c fr s)) (fun x => cnd (isNormal x.1) (g x.2.1 x.2.2) none) = some y) : ∃ f1 s1, runC E N c fr s = some [(.normal, f1, s1)] ∧ g f1 s1 = some y := by
  obtain ⟨⟨e, f1, s1⟩, h1, h2⟩ := ob_eq.1 h
  cases e with
  | normal =>
    refine ⟨f1, s1, ?_, h2⟩
    obtain ⟨l, h3, h4⟩ := ob_eq.1 h1
    cases l with
    | nil => cases h4
    | cons x t =>
      cases t with
      | nil => cases h4; exact h3
      | cons _ _ => cases h4
  | exit j => cases h2
  | ret => cases h2
theorem W_head : ∀ {j : Nat} {c : CCode} {fr : Fr} {s : St}, headC E N j c fr s = some (fr', s') → W E (sndN j c) fr' s' Q → W E c fr s Q
  | 0, c, fr, s, h, k => by cases h; exact k
  | j + 1, c, fr, s, h, k => by
    obtain ⟨h1, h2⟩ := must_eq.1 (show must (isSeq c) (ob (oneL (runC E N c.fst fr s)) fun x => cnd (isNormal x.1) (headC E N j c.snd x.2.1 x.2.2) none) = some (fr', s') from h)
    cases c with
    | seq a b =>
      obtain ⟨f1, s1, h3, h4⟩ := one_normal h2
      exact W_seq ⟨N, .normal, f1, s1, h3, W_head (j := j) (c := b) h4 k⟩
    | _ => cases h1
theorem runC_iter {body : CCode} : ∀ {k : Nat} {fr : Fr} {s : St}, iterC E N body k fr s = some (fr', s') → ∀ {m : Nat} {r : List (Ex × Fr × St)}, runC E m (.loop body) fr' s' = some r → ∃ m', runC E m' (.loop body) fr s = some r
  | 0, fr, s, h, m, r, hm => by cases h; exact ⟨m, hm⟩
  | k + 1, fr, s, h, m, r, hm => by
    obtain ⟨f1, s1, h3, h4⟩ := one_normal (show ob (oneL (runC E N body fr s)) (fun x => cnd (isNormal x.1) (iterC E N body k x.2.1 x.2.2) none) = some (fr', s') from h)
    obtain ⟨m', h5⟩ := runC_iter h4 hm
    refine ⟨max N m' + 1, ?_⟩
    show kSeq (runC E (max N m')) (.loop body) (runC E (max N m') body fr s) = some r
    rw [runC_mono (Nat.le_max_left N m') _ _ _ _ h3]
    exact runC_mono (Nat.le_max_right N m') _ _ _ _ h5
theorem W_iter {body rest : CCode} {id k : Nat} (h : iterC E N body k fr s = some (fr', s')) (hw : W E (.seq (.block id (.loop body)) rest) fr' s' Q) : W E (.seq (.block id (.loop body)) rest) fr s Q := by
  obtain ⟨n, e, f2, s2, h1, h2⟩ := hw
  cases n with
  | zero => cases h1
  | succ n =>
    have h1 : kSeq (runC E n) rest (runC E n (.block id (.loop body)) fr' s') = some [(e, f2, s2)] := h1
    cases n with
    | zero => cases h1
    | succ n =>
      obtain ⟨l, h3, h4⟩ := ob_eq.1 h1
      obtain ⟨r, h5, h6⟩ := om_eq.1 (show om (runC E n (.loop body) fr' s') (fun l => mapL (blockEx id) l) = some l from h3)
      obtain ⟨m', h7⟩ := runC_iter h h5
      refine ⟨max (n + 1) (m' + 1) + 1, e, f2, s2, ?_, h2⟩
      show kSeq (runC E (max (n + 1) (m' + 1))) rest (runC E (max (n + 1) (m' + 1)) (.block id (.loop body)) fr s) = _
      have h8 : runC E (m' + 1) (.block id (.loop body)) fr s = some l := by
        show om (runC E m' (.loop body) fr s) (fun l => mapL (blockEx id) l) = _
        rw [h7, om_some, h6]
      rw [runC_mono (Nat.le_max_right (n + 1) (m' + 1)) _ _ _ _ h8]
      exact kSeq_mono (runC_mono (Nat.le_max_left (n + 1) (m' + 1))) rest (OLe.refl _) _ (show kSeq (runC E (n + 1)) rest (some l) = _ from h4)
theorem W_assoc {a b c : CCode} {f1 : Fr} {s1 : St} (ha : runC E N a fr s = some [(.normal, f1, s1)]) (h : W E (.seq b c) f1 s1 Q) : W E (.seq (.seq a b) c) fr s Q := by
  obtain ⟨n, e, f2, s2, h1, h2⟩ := h
  cases n with
  | zero => cases h1
  | succ n =>
    have h1 : kSeq (runC E n) c (runC E n b f1 s1) = some [(e, f2, s2)] := h1
    refine ⟨max N n + 2, e, f2, s2, ?_, h2⟩
    show kSeq (runC E (max N n + 1)) c (runC E (max N n + 1) (.seq a b) fr s) = _
    have e1 : runC E (max N n + 1) (.seq a b) fr s = runC E (max N n) b f1 s1 := by
      show kSeq (runC E (max N n)) b (runC E (max N n) a fr s) = _
      rw [runC_mono (Nat.le_max_left N n) _ _ _ _ ha]
      rfl
    rw [e1]
    exact kSeq_mono (runC_mono (Nat.le_trans (Nat.le_max_right N n) (Nat.le_succ _))) c (runC_mono (Nat.le_max_right N n) _ _ _) _ h1
theorem says_half {P : Program} {f : FuncId} {nt t j k id : Nat} {body R L T : CCode} {k2 : Nat} {fr1 fr2 : Fr} {s0 s1 s2 : St} (hc : E.code f = some ⟨nt, body, [.tmp t]⟩) (hp : E.prim f = none) (hs : sndN j body = .seq (.seq R (.block id (.loop L))) T)
    (h1 : (ob (headC E N j body .e s0) fun x => ob (headC E N 1 (.seq R (.block id (.loop L))) x.1 x.2) fun y => iterC E N L k y.1 y.2) = some (fr1, s1))
    (h1b : iterC E N L k2 fr1 s1 = some (fr2, s2))
    (h2 : endsTrue t (runC E N (.seq (.block id (.loop L)) T) fr2 s2) = true) : ∃ n, saysTrue (callF E (runC E n) f [] s0) = true := by
  obtain ⟨⟨fa, sa⟩, e1, h3⟩ := ob_eq.1 h1
  obtain ⟨⟨fb, sb⟩, e2, e3⟩ := ob_eq.1 h3
  obtain ⟨f3, s3, e4, e5⟩ := one_normal (g := fun f s => some (f, s)) (show ob (oneL (runC E N R fa sa)) (fun x => cnd (isNormal x.1) (some (x.2.1, x.2.2)) none) = some (fb, sb) from e2)
  cases e5
  have : Cv E f [] s0 fun v _ => v = .bool true := by
    refine Cv_of hc ?_
    refine W_head e1 ?_
    rw [hs]
    exact W_assoc e4 (W_iter e3 (W_iter h1b (W_of_run h2 fun fr s h => ⟨rfl, [_], rfl, h⟩)))
  obtain ⟨n, h⟩ := this.says
  refine ⟨n, ?_⟩
  unfold callF
  rw [hp]
  exact h
end
end
end Go.Ev

namespace Go.Ev
open Go (Sem)
structure Inserts (P : Program) (f ov : FuncId) (t ti : TypeId) : Prop where
  enters : ∀ (args : List Value) (w : World), (callFunc f ⟨args⟩).run P w = .ok (.enter f ⟨args⟩) w
  overl : ∀ (w : World) (a b : Addr) (la ca lb cb : Nat) (tA tB : TypeId) (kA kB : Nat), a.block ≠ b.block → w.shape? a.block = some (tA, kA) → w.shape? b.block = some (tB, kB) → kB ≠ 0 → w.frozen? a = false → w.frozen? ⟨a.block, kA, none⟩ = false →
    (callFunc ov #[.slice (some a) la ca, .slice (some b) lb cb]).run P w = .ok (.value (.bool false)) w
  nil : ∀ (vb voff m vc : Nat) (w w1 : World) (v' : Value), 0 < m → (Builtin.append_ #[t, t] t #[.slice none 0 0, .slice (some ⟨vb, voff, none⟩) m vc]).run P w = .ok v' w1 →
    Calls P f #[.slice none 0 0, .int .i64 (0 : Nat), .slice (some ⟨vb, voff, none⟩) m vc] w fun e w' => e = .returned v' ∧ w' = w1
  end_ : ∀ (a : Addr) (n c vb voff m vc : Nat) (w w1 : World) (v' : Value), 0 < m → n ≤ c → (Builtin.append_ #[t, t] t #[.slice (some a) n c, .slice (some ⟨vb, voff, none⟩) m vc]).run P w = .ok v' w1 →
    Calls P f #[.slice (some a) n c, .int .i64 n, .slice (some ⟨vb, voff, none⟩) m vc] w fun e w' => e = .returned v' ∧ w' = w1
  shift : ∀ (b off n c i vb voff m vc : Nat) (w W1 W2 : World), i < n → 0 < m → n + m ≤ c → n + m ≤ 9223372036854775807 →
    (∀ lb cb, (callFunc ov #[.slice (some ⟨vb, voff, none⟩) m vc, .slice (some ⟨b, off + (i + m), none⟩) lb cb]).run P w = .ok (.value (.bool false)) w) →
    (∀ ty dc sc, (Builtin.copy_ #[t, t] ty #[.slice (some ⟨b, off + (i + m), none⟩) (n + m - (i + m)) dc, .slice (some ⟨b, off + i, none⟩) (n + m - i) sc]).run P w.drew = .ok (goInt (n - i : Nat)) W1) →
    (∀ ty dc, (Builtin.copy_ #[t, t] ty #[.slice (some ⟨b, off + i, none⟩) (n + m - i) dc, .slice (some ⟨vb, voff, none⟩) m vc]).run P W1 = .ok (goInt m) W2) →
    Calls P f #[.slice (some ⟨b, off, none⟩) n c, .int .i64 i, .slice (some ⟨vb, voff, none⟩) m vc] w fun e w' => e = .returned (.slice (some ⟨b, off, none⟩) (n + m) c) ∧ w' = W2
  grow : ∀ (b off n c i vb voff m vc nb G : Nat) (w W1 W2 W3 : World), i < n → 0 < m → n ≤ c → c < n + m → n + m ≤ 9223372036854775807 → n + m ≤ G →
    (∀ ty, (Builtin.append_ #[t, ti] ty #[.slice (some ⟨b, off, none⟩) i c, .int .i64 ((n : Int) + (m : Int) - (i : Int))]).run P w = .ok (.slice (some ⟨nb, 0, none⟩) (n + m) G) W1) →
    (∀ ty dc, (Builtin.copy_ #[t, t] ty #[.slice (some ⟨nb, i, none⟩) (n + m - i) dc, .slice (some ⟨vb, voff, none⟩) m vc]).run P W1 = .ok (goInt m) W2) →
    (∀ ty dc sc, (Builtin.copy_ #[t, t] ty #[.slice (some ⟨nb, i + m, none⟩) (n + m - (i + m)) dc, .slice (some ⟨b, off + i, none⟩) (n - i) sc]).run P W2.drew = .ok (goInt (n - i : Nat)) W3) →
    Calls P f #[.slice (some ⟨b, off, none⟩) n c, .int .i64 i, .slice (some ⟨vb, voff, none⟩) m vc] w fun e w' => e = .returned (.slice (some ⟨nb, 0, none⟩) (n + m) G) ∧ w' = W3
section
variable {P : Program} {ι : Inj} {w : World} {base : Nat} {s : St}
theorem copy_wrote {t e : TypeId} (hT : P.underlying t = some (.slice e)) (hE : sizeOf? P e = some 1) {W : World} {b off dl sb so sl k : Nat} {news : List Value} (hk : Nat.min sl dl = k) (hn : news.length = k)
    (hsrc : ∀ j, j < k → W.cell? ⟨sb, so + j, none⟩ = news[j]?) {cs : Array Value} {T : TypeId} {fr : Nat × Nat} (hb : W.heap[b]? = some (.cells cs T fr)) (hlen : off + k ≤ cs.size) (hs : ∀ v ∈ news, scal v) (hf : ∀ o, off ≤ o → o < off + k → ¬ (fr.1 ≤ o ∧ o < fr.2)) :
    ∃ W', (∀ ty dc sc, (Builtin.copy_ #[t, t] ty #[.slice (some ⟨b, off, none⟩) dl dc, .slice (some ⟨sb, so, none⟩) sl sc]).run P W = .ok (goInt k) W') ∧ Wrote W W' b ⟨splice cs.toList off news⟩ T fr := by
  obtain ⟨W', g1, g2⟩ := run_storeCells (P := P) (off := off) news 0 W cs hb (by omega) hs (by intro o h1 h2; exact hf o (by omega) (by omega))
  refine ⟨W', fun ty dc sc => ?_, by simpa using g2⟩
  have f2 : (loadCells ⟨sb, so, none⟩ k).run P W = .ok ⟨news⟩ W := run_loadCells hn (fun i hi => by rw [addr_add]; exact hsrc i hi)
  have e0 : (#[t, t] : Array TypeId)[0]? = some t := rfl
  simp [Builtin.copy_, Builtin.lenOf, Builtin.firstCells, Go.run_underlying hT, Result.andThen, run_sizeOf hE, hk, f2, g1]
theorem OR_gr {κ : Inj} {l m : List Value} (hl : LR κ l m) (hs : ∀ x ∈ l, scal x) {B : Blk} {W : World} {cs : Array Value} {T : TypeId} {fr : Nat × Nat} {es : Nat} (hb : W.heap[B.b]? = some (.cells cs T fr)) (hsz : cs.size = B.n) (hle : B.sh + l.length ≤ B.n)
    (hat : ∀ j, j < l.length → cs[B.sh + j]? = m[j]?) (hfr : freeFrom fr B.sh B.n) (hty : tyOk .gr es B T fr l.length) : OR κ (.cells l es .gr) B W := by
  refine ⟨cs, T, fr, hb, ⟨hsz, hle, ?_, hfr⟩, hty⟩
  intro i x hx
  obtain ⟨y, hy, hv⟩ := hl.some hx
  exact ⟨hs x (List.mem_of_getElem? hx), y, by rw [hat i (List.getElem?_eq_some_iff.1 hx).1, hy], hv⟩
theorem heap_push_of {w w' : World} {o : Obj} (hsz : w'.heap.size = w.heap.size + 1) (hold : ∀ b, b < w.heap.size → w'.heap[b]? = w.heap[b]?) (hnew : w'.heap[w.heap.size]? = some o) : w'.heap = w.heap.push o := by
  apply Array.ext_getElem?
  intro i
  rcases Nat.lt_trichotomy i w.heap.size with h | h | h
  · rw [hold i h, Array.getElem?_push, if_neg (by omega)]
  · subst h; rw [hnew]; simp
  · rw [Array.getElem?_eq_none (by omega), Array.getElem?_eq_none (by rw [Array.size_push]; omega)]
theorem mid_get (olds news : List Value) (i n m : Nat) (ho : olds.length = n) (hn : news.length = m) (hi : i ≤ n) (j : Nat) :
    (olds.take i ++ (news ++ olds.drop i))[j]? = if j < i then olds[j]? else if j < i + m then news[j - i]? else olds[j - m]? := by
  by_cases h1 : j < i
  · rw [if_pos h1, List.getElem?_append_left (by simp; omega), List.getElem?_take, if_pos h1]
  · rw [if_neg h1, List.getElem?_append_right (by simp; omega)]
    have e : (List.take i olds).length = i := by simp; omega
    rw [e]
    by_cases h2 : j < i + m
    · rw [if_pos h2, List.getElem?_append_left (by omega)]
    · rw [if_neg h2, List.getElem?_append_right (by omega), List.getElem?_drop]
      congr 1; omega
variable {f ov : FuncId} {t ti e : TypeId}
theorem insertMid_ok (I : Inserts P f ov t ti) (hT : P.underlying t = some (.slice e)) (hI : P.underlying ti = some (.int .i64)) {bytes : Nat} {z : Value} (hE : sizeOf? P e = some 1) (hb : bytesOf? P e = some bytes) (hz : zeroOf P e = some z) (hzs : z.cells.size = 1) (hb0 : 0 < bytes)
    (r : Rel ι base s w) {a : Addr} {n k m : Nat} {x' : Value} (hx : VR ι (.slice (some a) n open_) x') {vb voff vc : Nat} {tA : TypeId} {kA : Nat} {new news : List Value} (hl2 : LR ι new news) (hs2 : ∀ x ∈ new, scal x) (hnm : news.length = m)
    (hsrc : ∀ j, j < m → w.cell? ⟨vb, voff + j, none⟩ = news[j]?) (hshape : w.shape? vb = some (tA, kA)) (hf1 : w.frozen? ⟨vb, voff, none⟩ = false) (hf2 : w.frozen? ⟨vb, kA, none⟩ = false) (hvb : ∀ B, ι a.block = some B → owned ((s.get a.block).getD .dead) = true → vb ≠ B.b)
    (hk : k < n) (hm : 0 < m) (hroom : (n + m) * bytes ≤ room) {v : Value} {s' : St} (h : insertMid s (tag e 1) a n k m new = some (v, s')) :
    Calls P f #[x', .int .i64 k, .slice (some ⟨vb, voff, none⟩) m vc] w fun ex w' => ∃ v', ex = .returned v' ∧ ∃ κ, Ext none_ ι base s w κ s' w' ∧ VR κ v v' := by
  obtain ⟨⟨cs, es, md⟩, hg1, H1⟩ := ob_eq.1 h
  have hg := asCells_eq hg1
  simp only at H1 hg
  obtain ⟨hend, H2⟩ := must_eq.1 H1
  obtain ⟨hmd, H3⟩ := must_eq.1 H2
  obtain ⟨hes, H⟩ := must_eq.1 H3
  clear H1 H2 H3
  rw [Nat.beq_eq, lenL_eq] at hend
  rw [Nat.beq_eq] at hes
  have hmdg : md = .gr := by cases md <;> first | rfl | cases hmd
  subst hmdg
  have hro : room = 140737488355328 := rfl
  have hneed : n + m ≤ (n + m) * bytes := Nat.le_mul_of_pos_right _ hb0
  obtain ⟨es2, he2, he3, he4⟩ : ∃ es2, cnd (Nat.beq es (tag e 1)) es 1 = es2 ∧ esz es2 = 1 ∧ ((es2 = es ∧ es = tag e 1) ∨ ety es2 = 0) := by
    refine ⟨_, rfl, ?_⟩
    rw [cnd_eq]
    split
    · rename_i hh; rw [Nat.beq_eq] at hh; exact ⟨hes, .inl ⟨rfl, hh⟩⟩
    · exact ⟨rfl, .inr rfl⟩
  rw [he2] at H
  simp only [appL_eq, dropL_eq, takeL_eq, Option.some.injEq, Prod.mk.injEq] at H
  obtain ⟨rfl, rfl⟩ := H
  obtain ⟨B, c, hB, hsp, rfl, hcap, hle⟩ : ∃ B c, ι a.block = some B ∧ a.spot = none ∧ x' = .slice (some ⟨B.b, B.sh + a.off, none⟩) n c ∧ B.sh + a.off + c * B.es = B.n ∧ n ≤ c := by
    cases hx with
    | sl _ hc _ => exact absurd hc (by simp)
    | slO hB hsp ha hcap hle => subst ha; exact ⟨_, _, hB, hsp, rfl, hcap, hle⟩
    | slV => omega
  obtain ⟨cs', T, fr, w1, ⟨w2, w3, w4, w5⟩, w6⟩ := r.cells hg hB
  obtain ⟨hBe, _⟩ := w6.1 rfl
  rw [hes] at hBe
  rw [hBe, Nat.mul_one] at hcap
  have hne : vb ≠ B.b := hvb B hB (by rw [hg]; rfl)
  have hrow : s.row a n = some (cs.drop a.off) := by
    unfold St.row
    rw [hg1]
    simp only [ob_some, lenL_eq, takeL_eq, dropL_eq]
    rw [must_eq]
    exact ⟨by rw [Nat.ble_eq]; omega, by rw [List.take_of_length_le (by simp; omega)]⟩
  obtain ⟨g1, g2, olds, g3, g4⟩ := r.row (a' := ⟨B.b, B.sh + a.off, none⟩) ⟨B, hB, hsp, rfl⟩ hrow
  have hol : olds.length = n := by rw [← g3.length, g1]
  have hold : ∀ j, j < n → cs'[B.sh + a.off + j]? = olds[j]? := by
    intro j hj
    rw [← g4 j hj, addr_add, cell?_of w1]
  have hso : ∀ x ∈ olds, scal x := g3.scal g2
  have hsn : ∀ x ∈ news, scal x := hl2.scal hs2
  have hll : LR ι ((cs.drop a.off).take k ++ (new ++ (cs.drop a.off).drop k)) (olds.take k ++ (news ++ olds.drop k)) := (g3.take k).append (hl2.append (g3.drop k))
  have hsl : ∀ x ∈ (cs.drop a.off).take k ++ (new ++ (cs.drop a.off).drop k), scal x := by
    intro x hx
    rcases List.mem_append.1 hx with hx | hx
    · exact g2 x (List.mem_of_mem_take hx)
    · rcases List.mem_append.1 hx with hx | hx
      · exact hs2 x hx
      · exact g2 x (List.mem_of_mem_drop hx)
  have hlen : ((cs.drop a.off).take k ++ (new ++ (cs.drop a.off).drop k)).length = n + m := by
    rw [hll.length]; simp only [List.length_append, List.length_take, List.length_drop, hol, hnm]; omega
  have hfree : ∀ o, B.sh ≤ o → o < B.n → ¬ (fr.1 ≤ o ∧ o < fr.2) := fun o h1 h2 => w5 o h1 h2
  have hdl : (olds.drop k).length = n - k := by rw [List.length_drop, hol]
  by_cases hroom' : n + m ≤ c
  · -- in place
    obtain ⟨W1, k1, k2⟩ := copy_wrote (P := P) hT hE (W := w.drew) (b := B.b) (off := B.sh + a.off + (k + m)) (dl := n + m - (k + m)) (sb := B.b) (so := B.sh + a.off + k) (sl := n + m - k) (k := n - k) (news := olds.drop k)
      (by simp only [Nat.min_def]; split <;> omega) hdl (by
        intro j hj
        show w.cell? _ = _
        rw [cell?_of w1, Nat.add_assoc, hold (k + j) (by omega), List.getElem?_drop]) (cs := cs') (T := T) (fr := fr) w1 (by omega) (fun v hv => hso v (List.mem_of_mem_drop hv)) (fun o h1 h2 => hfree o (by omega) (by omega))
    have hsz1 : (splice cs'.toList (B.sh + a.off + (k + m)) (olds.drop k)).length = B.n := by
      rw [splice_length _ _ _ (by rw [hdl]; simp; omega)]; simpa using w2
    obtain ⟨W2, k3, k4⟩ := copy_wrote (P := P) hT hE (W := W1) (b := B.b) (off := B.sh + a.off + k) (dl := n + m - k) (sb := vb) (so := voff) (sl := m) (k := m) (news := news)
      (by simp only [Nat.min_def]; split <;> omega) hnm (by
        intro j hj
        have := hsrc j hj
        unfold World.cell? at this ⊢
        rw [k2.old vb hne]
        exact this) k2.at_ (by simp only [List.size_toArray]; omega) hsn (fun o h1 h2 => hfree o (by omega) (by omega))
    refine (I.shift B.b (B.sh + a.off) n c k vb voff m vc w W1 W2 hk hm hroom' (by omega) (fun lb cb => I.overl w _ _ m vc lb cb tA T kA B.n hne hshape (by unfold World.shape?; rw [w1]; simp [w2]) (by omega) hf1 hf2) (fun ty dc sc => k1 ty dc sc) (fun ty dc => k3 ty dc vc)).mono fun ex w' he => ?_
    obtain ⟨rfl, rfl⟩ := he
    refine ⟨_, rfl, ?_⟩
    have hn2 := (r.next s.next (Nat.le_refl _)).2
    have hle' : ι.le (ι.put s.next ⟨B.b, B.sh + a.off, B.n, 1⟩) := Inj.le_put _ hn2
    refine ⟨_, Ext.move r a.block _ _ B ⟨B.b, B.sh + a.off, B.n, 1⟩ hg rfl rfl hB rfl (k4.size.trans k2.size) (fun b hb => (k4.old b hb).trans (k2.old b hb)) (k4.os.trans k2.os) (k4.tape.trans k2.tape) (k4.output.trans k2.output) ?_, ?_⟩
    · refine OR_gr (hll.mono hle') hsl k4.at_ (by simp only [List.size_toArray]; rw [splice_length _ _ _ (by omega)]; exact hsz1) (by rw [hlen]; simp only; omega) ?_ (fun o h1 h2 => w5 o (by simp only at h1; omega) h2) ?_
      · intro j hj
        rw [hlen] at hj
        simp only
        rw [arr_get, splice_get _ _ _ (by omega), mid_get olds news k n m hol hnm (by omega)]
        by_cases h1 : j < k
        · rw [if_neg (by omega), if_pos h1, splice_get _ _ _ (by simp; omega), if_neg (by omega), Array.getElem?_toList, hold j (by omega)]
        · rw [if_neg h1]
          by_cases h2 : j < k + m
          · rw [if_pos h2, if_pos (by omega)]; congr 1; omega
          · rw [if_neg h2, if_neg (by omega), splice_get _ _ _ (by simp; omega), if_pos (by omega), List.getElem?_drop]; congr 1; omega
      · refine ⟨fun _ => ⟨he3.symm, by rw [he3]; omega⟩, ?_⟩
        rcases he4 with ⟨rfl, _⟩ | h0
        · refine w6.2.imp id fun ⟨q1, q2, q3⟩ => ⟨q1, fun hh => ?_, fun hh => by cases hh⟩
          have := q2 rfl; simp only; omega
        · exact .inl h0
    · exact .slO (B := ⟨B.b, B.sh + a.off, B.n, 1⟩) (Inj.put_same _ _ _) rfl rfl (by simp only; omega) hroom'
  · -- a new row
    obtain ⟨i, hi, hi1, hi2, hiz⟩ := info_of hE hb hz
    have hfirst : (Builtin.firstCells i.size k (.slice (some ⟨B.b, B.sh + a.off, none⟩) k c)).run P w.drew = .ok (olds.take k).toArray w.drew := by
      rw [hi1]
      have : (loadCells ⟨B.b, B.sh + a.off, none⟩ k).run P w.drew = .ok ⟨olds.take k⟩ w.drew := run_loadCells (by rw [List.length_take]; omega) (by
        intro j hj
        show w.cell? _ = _
        rw [g4 j (by omega), List.getElem?_take, if_pos hj])
      simpa [Builtin.firstCells] using this
    have hkk : (n : Int) + (m : Int) - (k : Int) = ((n + m - k : Nat) : Int) := by omega
    have hik : k + (n + m - k) = n + m := by omega
    have hap := fun ty => Lib.run_append_grow_zeros w t ti ty e i z .i64 .i64 hT hI hi hiz (some ⟨B.b, B.sh + a.off, none⟩) k c (olds.take k) hfirst (n + m - k) (by omega) (by omega) (by omega) (by omega) (by
      rw [hi2]; have : (n + m - k) * bytes ≤ (n + m) * bytes := Nat.mul_le_mul_right _ (by omega)
      omega) (by rw [hi2, hik]; exact growslice_fits (by omega) (by omega))
    rw [hik, ← hkk] at hap
    have hGn : n + m ≤ grownCap w (n + m) c e := cut_ge _ _ _ _
    generalize hG : grownCap w (n + m) c e = G at hap hGn
    generalize hROW : (olds.take k).toArray ++ Builtin.zeroCells z.cells (n + m - k) ++ Builtin.zeroCells z.cells (G - (n + m)) = ROW at hap
    have hRl : ROW.size = G := by
      rw [← hROW]; simp [Builtin.zeroCells, hzs]; omega
    have hRk : ∀ j, j < k → ROW[j]? = olds[j]? := by
      intro j hj
      rw [← hROW, Array.getElem?_append_left (by simp; omega), Array.getElem?_append_left (by simp; omega)]
      simp [hj]
    obtain ⟨W0, hW0⟩ : ∃ W0, W0 = w.drew.alloc (.cells ROW e) := ⟨_, rfl⟩
    rw [← hW0] at hap
    have hh0 : W0.heap = w.heap.push (.cells ROW e) := by rw [hW0]; rfl
    have hat0 : W0.heap[w.heap.size]? = some (.cells ROW e (0, 0)) := by rw [hh0]; simp
    have hold0 : ∀ b, b < w.heap.size → W0.heap[b]? = w.heap[b]? := fun b hb => by rw [hh0, Array.getElem?_push, if_neg (by omega)]
    have hsz0 : W0.heap.size = w.heap.size + 1 := by rw [hh0, Array.size_push]
    have hvl : vb < w.heap.size := by
      unfold World.shape? at hshape
      rcases Nat.lt_or_ge vb w.heap.size with h | h
      · exact h
      · rw [Array.getElem?_eq_none h] at hshape; cases hshape
    have hBl : B.b < w.heap.size := r.blk _ _ hB
    obtain ⟨W1, k1, k2⟩ := copy_wrote (P := P) hT hE (W := W0) (b := w.heap.size) (off := k) (dl := n + m - k) (sb := vb) (so := voff) (sl := m) (k := m) (news := news)
      (by simp only [Nat.min_def]; split <;> omega) hnm (by
        intro j hj
        have := hsrc j hj
        unfold World.cell? at this ⊢
        rw [hold0 vb hvl]
        exact this) hat0 (by omega) hsn (fun o h1 h2 => by simp)
    have hsz1 : (splice ROW.toList k news).length = G := by
      rw [splice_length _ _ _ (by rw [hnm]; simp; omega)]; simpa using hRl
    obtain ⟨W2, k3, k4⟩ := copy_wrote (P := P) hT hE (W := W1.drew) (b := w.heap.size) (off := k + m) (dl := n + m - (k + m)) (sb := B.b) (so := B.sh + a.off + k) (sl := n - k) (k := n - k) (news := olds.drop k)
      (by simp only [Nat.min_def]; split <;> omega) hdl (by
        intro j hj
        have e1 : W1.heap[B.b]? = some (.cells cs' T fr) := by rw [k2.old B.b (by omega), hold0 B.b hBl, w1]
        show W1.cell? _ = _
        rw [cell?_of e1, Nat.add_assoc, hold (k + j) (by omega), List.getElem?_drop]) k2.at_ (by simp only [List.size_toArray]; omega) (fun v hv => hso v (List.mem_of_mem_drop hv)) (fun o h1 h2 => by simp)
    refine (I.grow B.b (B.sh + a.off) n c k vb voff m vc w.heap.size G w W0 W1 W2 hk hm hle (by omega) (by omega) hGn hap (fun ty dc => k1 ty dc vc) (fun ty dc sc => k3 ty dc sc)).mono fun ex w' he => ?_
    obtain ⟨rfl, rfl⟩ := he
    refine ⟨_, rfl, ?_⟩
    obtain ⟨F, hF⟩ : ∃ F, F = splice (splice ROW.toList k news) (k + m) (olds.drop k) := ⟨_, rfl⟩
    have hFl : F.length = G := by rw [hF, splice_length _ _ _ (by omega)]; exact hsz1
    have hFt : F.take (n + m) = olds.take k ++ (news ++ olds.drop k) := by
      apply List.ext_getElem?
      intro j
      rw [mid_get olds news k n m hol hnm (by omega), List.getElem?_take]
      by_cases hj : j < n + m
      · rw [if_pos hj, hF, splice_get _ _ _ (by omega)]
        by_cases h1 : j < k
        · rw [if_neg (by omega), if_pos h1, splice_get _ _ _ (by rw [hnm]; simp; omega), if_neg (by omega), Array.getElem?_toList, hRk j h1]
        · rw [if_neg h1]
          by_cases h2 : j < k + m
          · rw [if_pos h2, if_neg (by omega), splice_get _ _ _ (by rw [hnm]; simp; omega), if_pos (by omega)]
          · rw [if_neg h2, if_pos (by omega), List.getElem?_drop]; congr 1; omega
      · rw [if_neg hj, if_neg (by omega), if_neg (by omega), List.getElem?_eq_none (by omega)]
    have hd := Ext.drop (S := none_) r a.block _ B hg rfl hB
    obtain ⟨κ, q1, q2⟩ := grown_new (S := none_) hd.rel (E := e) (es := 1) (cap := G) (need := n + m) (z := F.drop (n + m)) (tg := es2) hll hsl he3 (he4.elim (fun ⟨q1, q2⟩ => by rw [q1, q2]; exact .inr (ety_tag (by decide))) .inl) (by omega) (by rw [hlen]; omega) hGn (by rw [List.length_drop, hFl]; omega) (w' := w') (by
      refine heap_push_of ?_ (fun b hb => ?_) ?_
      · rw [k4.size]; show W1.heap.size = _; rw [k2.size, hsz0]
      · rw [k4.old b (by omega)]; show W1.heap[b]? = _; rw [k2.old b (by omega), hold0 b hb]
      · rw [k4.at_, ← hFt, List.take_append_drop, hF]) (by rw [k4.os]; show W1.os = _; rw [k2.os, hW0]; rfl) (by rw [k4.tape]; show W1.tape = _; rw [k2.tape, hW0]; rfl) (by rw [k4.output]; show W1.output = _; rw [k2.output, hW0]; rfl) (md := .gr) rfl
    exact ⟨κ, hd.trans q1, q2⟩
theorem args3_eq {g : Value → Value → Value → St → R} {l : List Value} {s : St} {q : Value × St} (h : (List.casesOn l none fun x l => args2 (g x) l s) = some q) : ∃ x y z, l = [x, y, z] ∧ g x y z s = some q := by
  cases l with
  | nil => cases h
  | cons x l =>
    obtain ⟨y, z, rfl, h2⟩ := args2_eq (show args2 (g x) l s = some q from h)
    exact ⟨x, y, z, rfl, h2⟩
theorem LR.three {x y z : Value} {m : List Value} (h : LR ι [x, y, z] m) : ∃ a b c, m = [a, b, c] ∧ VR ι x a ∧ VR ι y b ∧ VR ι z c := by
  cases h with
  | cons h t => obtain ⟨b, c, rfl, h2, h3⟩ := t.two; exact ⟨_, _, _, rfl, h, h2, h3⟩
theorem isPrim_insert (I : Inserts P f ov t ti) (hT : P.underlying t = some (.slice e)) (hI : P.underlying ti = some (.int .i64)) {bytes : Nat} {z : Value} (hE : sizeOf? P e = some 1) (hb : bytesOf? P e = some bytes) (hz : zeroOf P e = some z) (hzs : z.cells.size = 1) (hb0 : 0 < bytes) : IsPrim P f (pInsert (tag e 1) bytes) := by
  intro ι base s w args args' v s' hg r ha h
  obtain ⟨x, i, y, rfl, h1⟩ := args3_eq h
  obtain ⟨x', i', y', rfl, hx, hi, hy⟩ := ha.three
  obtain ⟨p, hp, h2⟩ := ob_eq.1 h1
  obtain ⟨j, hj, h3⟩ := ob_eq.1 h2
  obtain ⟨hk64, h4⟩ := must_eq.1 h3
  obtain ⟨k, hk, h5⟩ := ob_eq.1 h4
  obtain ⟨q, hq, h6⟩ := ob_eq.1 h5
  obtain ⟨b, hqb, h7⟩ := ob_eq.1 h6
  obtain ⟨hm, h8⟩ := must_eq.1 h7
  obtain ⟨hclosed, h9⟩ := must_eq.1 h8
  obtain ⟨⟨ds, des, dmd⟩, hd1, h10⟩ := ob_eq.1 h9
  obtain ⟨hdx, h11⟩ := must_eq.1 h10
  obtain ⟨new, hnew, h12⟩ := ob_eq.1 h11
  obtain ⟨hroom, H⟩ := must_eq.1 h12
  clear h h1 h2 h3 h4 h5 h6 h7 h8 h9 h10 h11 h12
  rw [kEq_eq] at hk64
  have hk64 : j.1 = .i64 := by simpa using hk64
  obtain ⟨kk, hkk⟩ := asNat_eq hk
  have hi2 := asInt_eq hj
  rw [hkk] at hi2
  simp only [Value.int.injEq] at hi2
  rw [hkk, hi2.1, hk64] at hi
  rw [hi.intE]
  clear hi hi2 hkk hj hk hk64
  obtain ⟨xb, n, cap⟩ := p
  obtain ⟨qb, m, qc⟩ := q
  simp only at hqb hm hclosed hroom hnew H
  subst hqb
  rw [Nat.ble_eq] at hm hroom
  have hclosed : qc ≠ open_ := by
    intro e0
    have e1 : Nat.beq qc open_ = true := by rw [Nat.beq_eq]; exact e0
    rw [e1] at hclosed; cases hclosed
  have hxe := asSl_eq hp
  rw [asSl_eq hq] at hy
  simp only at hxe hy
  have hdg := asCells_eq hd1
  simp only at hdg
  have hdm : dmd = .ex := by simp only at hdx; cases dmd <;> first | rfl | cases hdx
  subst hdm
  obtain ⟨Bv, hBv, hvs, rfl⟩ : ∃ B, ι b.block = some B ∧ b.spot = none ∧ y' = .slice (some ⟨B.b, B.sh + b.off, none⟩) m qc := by
    cases hy with
    | sl h _ _ => obtain ⟨B, g1, g2, rfl⟩ := h; exact ⟨B, g1, g2, rfl⟩
    | slO => exact absurd rfl hclosed
    | slV => exact absurd rfl hclosed
  obtain ⟨dv, Tv, frv, d1, ⟨d2, d3, d4, d5⟩, d6⟩ := r.cells hdg hBv
  obtain ⟨d51, d52, d53⟩ := d5
  subst d53
  obtain ⟨g1, g2, news, g3, g4⟩ := r.row (a' := ⟨Bv.b, Bv.sh + b.off, none⟩) ⟨Bv, hBv, hvs, rfl⟩ hnew
  have hnl : news.length = m := by rw [← g3.length, g1]
  refine .inr ⟨I.enters _ _, ?_⟩
  suffices hc : Calls P f #[x', .int .i64 k, .slice (some ⟨Bv.b, Bv.sh + b.off, none⟩) m qc] w fun ex w' => ∃ v', ex = .returned v' ∧ ∃ κ, Ext none_ ι base s w κ s' w' ∧ VR κ v v' from
    hc.mono fun ex w' ⟨v', he, g⟩ => by subst he; exact g
  have H0 : insertAt (tag e 1) bytes s x (xb, n, cap) (some b, m, qc) k b new = some (v, s') := H
  clear H
  unfold insertAt at H0
  rw [cnd_eq] at H0
  split at H0
  · -- behind the last
    rename_i hkn
    rw [Nat.beq_eq] at hkn
    simp only at hkn
    subst hkn
    obtain ⟨i, hi, hi1, hi2, hiz⟩ := info_of hE hb hz
    have hy2 : VR ι (.slice (some b) m qc) (.slice (some ⟨Bv.b, Bv.sh + b.off, none⟩) m qc) := hy
    obtain ⟨f1, news2, f2, f3, f4, f5⟩ := firstCells_ok (P := P) r hy2 (size := i.size) (n := m) rfl (Nat.le_refl _) (by
      rw [hi1]
      show s.row b (m * 1) = some new
      rw [Nat.mul_one]; exact hnew)
    have src : Src P i.size t (.slice (some ⟨Bv.b, Bv.sh + b.off, none⟩) m qc) m news2 w := ⟨.inl ⟨_, hT⟩, f1, f2 w.drawn, f2 (w.drawn + 1), f3, fun q hq => scal_one (f4.scal f5 q hq)⟩
    obtain ⟨κ, v', w', e1, e2, e3⟩ := appendNew_ok (ty := t) r hT hi hiz (by rw [hzs, hi1]) (by omega) (by omega) hx (App.src hT hi hiz src) f4 f5 (tg := tag e 1) (by rw [hi1]; exact esz_tag (by decide)) (.inr (ety_tag (by decide))) (by omega) (by rw [hi1, hi2]; exact H0) none_
    rw [hxe] at hx
    have done : ∀ ex w'', (ex = Ending.returned v' ∧ w'' = w') → ∃ v'', ex = .returned v'' ∧ ∃ κ, Ext none_ ι base s w κ s' w'' ∧ VR κ v v'' := by
      rintro ex w'' ⟨rfl, rfl⟩; exact ⟨v', rfl, κ, e2, e3⟩
    cases hx with
    | slN => exact (I.nil _ _ _ _ _ _ _ (by omega) e1).mono fun ex w'' he => done ex w'' he
    | sl _ _ hle => exact (I.end_ _ _ _ _ _ _ _ _ _ _ (by omega) hle e1).mono fun ex w'' he => done ex w'' he
    | slO _ _ _ _ hle => exact (I.end_ _ _ _ _ _ _ _ _ _ _ (by omega) hle e1).mono fun ex w'' he => done ex w'' he
    | slV => exact (I.end_ _ _ _ _ _ _ _ _ _ _ (by omega) (Nat.le_refl _) e1).mono fun ex w'' he => done ex w'' he
  · -- in front of others
    obtain ⟨hlt, H2⟩ := must_eq.1 H0
    obtain ⟨hop, H3⟩ := must_eq.1 H2
    obtain ⟨a, hxb, H4⟩ := ob_eq.1 H3
    obtain ⟨hab, H5⟩ := must_eq.1 H4
    clear H0 H2 H3 H4
    simp only at hlt hop hxb H5
    subst hxb
    rw [Nat.beq_eq] at hop
    subst hop
    have hlt : k < n := by simpa [Nat.blt_eq] using hlt
    have hab : a.block ≠ b.block := by
      intro e0
      have e1 : Nat.beq a.block b.block = true := by rw [Nat.beq_eq]; exact e0
      rw [e1] at hab; cases hab
    rw [hxe] at hx
    refine insertMid_ok I hT hI hE hb hz hzs hb0 r hx (tA := Tv) (kA := dv.size) g3 g2 hnl (fun j hj => by rw [← g4 j hj, addr_add]) (by unfold World.shape?; rw [d1]) (by unfold World.frozen?; rw [d1]; simp) (by unfold World.frozen?; rw [d1]; simp) (fun B hB ho => ?_) hlt (by omega) hroom H5
    cases hga : s.get a.block with
    | none => rw [hga] at ho; cases ho
    | some o =>
      rw [hga] at ho
      exact (r.sep a.block b.block o _ B Bv hga hdg hab ho rfl hB hBv).symm
end
end Go.Ev

namespace Go.Ev
open Go
theorem returnsInHanded_shaped {H : Type} {enc : TypeId × Value → H} {a : Assume} {C : Checked} {os : Os} {f : FuncId} {fn : Func} {s : ChangeSpec} {conds : List PathCond} {apart fresh handsOn again : Bool} {X : World → Array Value → Prop}
    (hX : ∀ (w w' : World) (args : Array Value), w.heap = w'.heap → X w args → X w' args)
    (own : ownKnob C.prog.godebug = none) (started : os.Started) (noInit : C.prog.inits.idxOf? f = none) (hfn : C.prog.funcs[f]? = some fn)
    (witness : ∃ (w : World) (tape : Tape) (i : Input), w.os = os ∧ (w.forCall tape i).Shaped C.prog ∧ i.vars = [] ∧ Input.okWide C.prog (w.forCall tape i) .any w.heap.size f i ∧
      ((s.pre enc C.prog fn conds apart (w.forCall tape i).memory i.args ∧ X (w.forCall tape i).memory i.args) ∧ sizedMet enc C.prog fn (OpenSpec.ofChange s) apart (w.forCall tape i).memory i.args) ∧ a.holds C.prog (lone (Frame.enter C.prog f i.args .normal) [] (w.forCall tape i)))
    (contract : ∀ (W : World) (base : Nat) (args : Array Value) (ds gs : List (DataW H)) (before : List MemPlace), W.ShapedOpen C.prog →
      (∀ (j : Nat) (t : TypeId) (v : Value), fn.params[j]? = some t → args[j]? = some v → Value.okWide C.prog W .any base t v) →
      DataW.Whole enc C.prog fn.params.toList s.vars apart W args.toList ds gs before →
      conds.all (PathCond.test C.prog ⟨fn.params.toList, ds, s.plain.varTypes C.prog, gs⟩) = true →
      (DataW.weightsEach C.prog (fn.params.toList ++ s.plain.varTypes C.prog) (ds ++ gs)).all (· ≤ reachBytes) = true → X W args →
      Calls C.prog f args W fun e W' => ∃ v, e = .returned v ∧ s.post enc C.prog fn apart fresh handsOn again W args v W') :
    ReturnsInHanded a C os f .any (fun w args => (s.pre enc C.prog fn conds apart w args ∧ X w args) ∧ sizedMet enc C.prog fn (OpenSpec.ofChange s) apart w args) (s.post enc C.prog fn apart fresh handsOn again) := by
  refine returnsInHanded_of_calls own started noInit witness ?_
  intro w tape i _ hshape _ hok hpre _
  obtain ⟨_, _, _, fn', hfn', _, _, _, _, hval⟩ := hok
  have e : fn' = fn := Option.some.inj (hfn'.symm.trans hfn)
  subst e
  obtain ⟨⟨⟨ds, gs, before, hw, hc⟩, hx⟩, hz⟩ := hpre
  have hw' := DataW.Whole.of_heap (w' := w.forCall tape i) (by rfl) hw
  refine (contract (w.forCall tape i) w.heap.size i.args ds gs before hshape hval hw' hc (hz.weights hw) (hX _ _ _ (by rfl) hx)).mono fun e W' ⟨v, he, hp⟩ => ?_
  subst he
  exact ChangeSpec.post_blind hp
end Go.Ev

namespace Go.Ev
open Go
section
variable {P : Program} {w : World} {r : Reach} {base : Nat} {t : TypeId} {v : Value}
theorem okCell_bool (ht : P.underlying t = some .bool) (h : Cell.okWide P w r base t v) : ∃ b, v = .bool b := by
  simp only [Cell.okWide, ht] at h
  cases v <;> simp_all [Cell.ok]
theorem okCell_int {k : IntKind} (ht : P.underlying t = some (.int k)) (h : Cell.okWide P w r base t v) : ∃ n, v = .int k n := by
  simp only [Cell.okWide, ht] at h
  cases v <;> simp_all [Cell.ok]
theorem okCell_string (ht : P.underlying t = some .string) (h : Cell.okWide P w r base t v) : ∃ s, v = .string s := by
  simp only [Cell.okWide, ht] at h
  cases v <;> simp_all [Cell.ok]
inductive CellsOk (P : Program) (w : World) (r : Reach) (base : Nat) : List TypeId → List Value → Prop
  | nil : CellsOk P w r base [] []
  | cons {t : TypeId} {v : Value} {ts : List TypeId} {vs : List Value} (h : Cell.okWide P w r base t v) (k : CellsOk P w r base ts vs) : CellsOk P w r base (t :: ts) (v :: vs)
theorem CellsOk.of : ∀ {ts : List TypeId} {cs : List Value}, cs.length = ts.length → (∀ (i : Nat) (u : TypeId) (v : Value), ts[i]? = some u → cs[i]? = some v → Cell.okWide P w r base u v) → CellsOk P w r base ts cs
  | [], [], _, _ => .nil
  | [], _ :: _, h, _ => by simp at h
  | _ :: _, [], h, _ => by simp at h
  | t :: ts, v :: vs, h, k => .cons (k 0 t v rfl rfl) (CellsOk.of (by simpa using h) fun i u x hu hx => k (i + 1) u x (by simpa using hu) (by simpa using hx))
theorem CellsOk.inv {ts : List TypeId} {cs : List Value} (h : CellsOk P w r base (t :: ts) cs) : ∃ v vs, cs = v :: vs ∧ Cell.okWide P w r base t v ∧ CellsOk P w r base ts vs := by
  cases h with
  | cons h k => exact ⟨_, _, rfl, h, k⟩
theorem CellsOk.end_ {cs : List Value} (h : CellsOk P w r base [] cs) : cs = [] := by cases h; rfl
theorem okCells {fs : Array Field} {ts : List TypeId} (ht : P.underlying t = some (.struct fs)) (hts : P.cellTypes P.depth t = some ts) (hn : P.cellsOf t = ts.length) (h : Value.okWide P w r base t v) : ∃ cs, v = .agg ⟨cs⟩ ∧ CellsOk P w r base ts cs := by
  simp only [Value.okWide, ht] at h
  obtain ⟨cs, rfl, h2, ts', h3, _, h4⟩ := h
  rw [hts] at h3
  cases h3
  obtain ⟨cs⟩ := cs
  have hl : cs.length = ts.length := by rw [← hn, ← h2]; rfl
  refine ⟨cs, rfl, CellsOk.of hl fun i u v hu hv => ?_⟩
  obtain ⟨u', k1, k2⟩ := h4 i v (by simpa using hv)
  have hlt := (List.getElem?_eq_some_iff.1 hu).1
  rw [Nat.mod_eq_of_lt hlt, hu] at k1
  cases k1
  exact k2
end
end Go.Ev

namespace Go.Ev
noncomputable section
def rowsInj (n : Nat) (R : List (Blk × List Value)) : Inj := fun a => if a < n then some ⟨a, 0, 0, 0⟩ else (R[a - n]?).map (·.1)
def rowsSt (n : Nat) (R : List (Blk × List Value)) : St := ⟨Tr.ofList .e n (R.map fun r => Ob.cells r.2 0 .ro), n + R.length⟩
theorem ofList_get {α : Type} : ∀ (l : List α) (t : Tr α) (n a : Nat), (Tr.ofList t n l).get a = if n ≤ a ∧ a < n + l.length then l[a - n]? else t.get a
  | [], t, n, a => by
    rw [if_neg (by simp)]; rfl
  | x :: l, t, n, a => by
    show (Tr.ofList (t.set n x) (n + 1) l).get a = _
    rw [ofList_get l _ _ a]
    by_cases h1 : n + 1 ≤ a ∧ a < n + 1 + l.length
    · rw [if_pos h1, if_pos (by simp; omega), show a - n = (a - (n + 1)) + 1 from by omega, List.getElem?_cons_succ]
    · rw [if_neg h1, Tr.get_set]
      by_cases h2 : n = a
      · subst h2; rw [if_pos rfl, if_pos (by simp)]; simp
      · rw [if_neg h2, if_neg (by simp; omega)]
theorem rowsSt_get {n : Nat} {R : List (Blk × List Value)} {a : Nat} : (rowsSt n R).get a = if n ≤ a then (R[a - n]?).map fun r => Ob.cells r.2 0 .ro else none := by
  show (Tr.ofList .e n (R.map fun r => Ob.cells r.2 0 .ro)).get a = _
  rw [ofList_get]
  by_cases h : n ≤ a
  · by_cases h2 : a < n + (R.map fun r => Ob.cells r.2 0 .ro).length
    · rw [if_pos ⟨h, h2⟩, if_pos h, List.getElem?_map]
    · rw [if_neg (by omega), if_pos h, List.getElem?_eq_none (by simp at h2; omega)]
      exact Tr.get_e a
  · rw [if_neg (by omega), if_neg h]; exact Tr.get_e a
theorem rows_globs {P : Program} {n : Nat} (hn : P.globals.size = n) (R : List (Blk × List Value)) : Globs P (rowsInj n R) := fun g hg => ⟨_, if_pos (hn ▸ hg), rfl, rfl, .inl rfl⟩
theorem rowsInj_at {n : Nat} {R : List (Blk × List Value)} {i : Nat} {r : Blk × List Value} (h : R[i]? = some r) : rowsInj n R (n + i) = some r.1 := by
  unfold rowsInj
  rw [if_neg (by omega), show n + i - n = i from by omega, h]; rfl
theorem rows_rel {w : World} {n : Nat} {R : List (Blk × List Value)} (hsz : n ≤ w.heap.size)
    (h : ∀ (i : Nat) (r : Blk × List Value), R[i]? = some r → ∃ cs' T fr, w.heap[r.1.b]? = some (.cells cs' T fr) ∧ cs'.size = r.1.n ∧ r.1.sh + r.2.length ≤ r.1.n ∧ ∀ (j : Nat) (x : Value), r.2[j]? = some x → scal x ∧ ∃ y, cs'[r.1.sh + j]? = some y ∧ VR (rowsInj n R) x y) :
    Rel (rowsInj n R) w.heap.size (rowsSt n R) w := by
  have hg : ∀ a o, (rowsSt n R).get a = some o → ∃ i r, a = n + i ∧ R[i]? = some r ∧ o = .cells r.2 0 .ro := by
    intro a o ho
    rw [rowsSt_get] at ho
    split at ho
    · rename_i hna
      rw [Option.map_eq_some_iff] at ho
      obtain ⟨r, h1, h2⟩ := ho
      exact ⟨a - n, r, by omega, h1, h2.symm⟩
    · cases ho
  have hro : ∀ a o, (rowsSt n R).get a = some o → owned o = false := by
    intro a o ho
    obtain ⟨i, r, _, _, rfl⟩ := hg a o ho
    rfl
  refine ⟨fun a o ho _ => ?_, fun a a' o o' B B' ho _ _ h' => ?_, fun a o B ho h' => ?_, fun a ha => ⟨?_, ?_⟩, fun a B h' => ?_, Nat.le_refl _⟩
  · obtain ⟨i, r, rfl, h1, rfl⟩ := hg a o ho
    obtain ⟨cs', T, fr, h2, h3, h4, h5⟩ := h i r h1
    exact ⟨r.1, rowsInj_at h1, cs', T, fr, h2, ⟨h3, h4, h5, trivial⟩, tyOk.zero fun h => by cases h⟩
  · rw [hro a o ho] at h'; cases h'
  · rw [hro a o ho] at h'; cases h'
  · have ha : n + R.length ≤ a := ha
    rw [rowsSt_get, if_pos (by omega), List.getElem?_eq_none (by omega)]; rfl
  · have ha : n + R.length ≤ a := ha
    unfold rowsInj
    rw [if_neg (by omega), List.getElem?_eq_none (by omega)]; rfl
  · unfold rowsInj at h'
    split at h'
    · cases h'; simp only; omega
    · rw [Option.map_eq_some_iff] at h'
      obtain ⟨r, h1, rfl⟩ := h'
      obtain ⟨cs', T, fr, h2, _⟩ := h _ r h1
      exact (Array.getElem?_eq_some_iff.1 h2).1
theorem rows_sl {n i m c size : Nat} {R : List (Blk × List Value)} {r : Blk × List Value} (h : R[i]? = some r) (hl : r.2.length = m * size) (hc : m ≤ c ∧ c < open_) : Sl (rowsSt n R) (n + R.length) size (.slice (some ⟨n + i, 0, none⟩) m c) r.2 := by
  have hi : i < R.length := (List.getElem?_eq_some_iff.1 h).1
  have := Sl.mk (s := rowsSt n R) (hi := n + R.length) (size := size) (b := n + i) (o := 0) (n := m) (c := c) (cells := r.2) (es := 0) (md := .ro) (by omega) (by rw [rowsSt_get, if_pos (by omega), show n + i - n = i from by omega, h]; rfl) (by omega) (.inl hc)
  rw [List.drop_zero, ← hl, List.take_length] at this
  exact this
theorem VR.laid {n i m c : Nat} {R : List (Blk × List Value)} {r : Blk × List Value} {a : Addr} (h : R[i]? = some r) (hb : r.1.b = a.block) (ho : r.1.sh = a.off) (hs : a.spot = none) (hc : c < open_) (hm : m ≤ c) :
    VR (rowsInj n R) (.slice (some ⟨n + i, 0, none⟩) m c) (.slice (some a) m c) := by
  obtain ⟨b, o, sp⟩ := a
  simp only at hb ho hs
  subst hb ho hs
  exact .sl ⟨r.1, rowsInj_at h, rfl, rfl⟩ hc hm
end
end Go.Ev

namespace Go.Ev
noncomputable section
def Lay (w : World) (n : Nat) (R : List (Blk × List Value)) : Prop := ∀ (i : Nat) (r : Blk × List Value), R[i]? = some r → ∃ cs' T fr, w.heap[r.1.b]? = some (.cells cs' T fr) ∧ cs'.size = r.1.n ∧ r.1.sh + r.2.length ≤ r.1.n ∧
  ∀ (j : Nat) (x : Value), r.2[j]? = some x → scal x ∧ ∃ y, cs'[r.1.sh + j]? = some y ∧ VR (rowsInj n R) x y
section
variable {w : World} {n : Nat} {R Z : List (Blk × List Value)}
theorem Lay.nil : Lay w n [] := by intro i r h; simp at h
theorem Lay.rel (h : Lay w n R) (hsz : n ≤ w.heap.size) : Rel (rowsInj n R) w.heap.size (rowsSt n R) w := rows_rel hsz h
theorem rowsInj_le (n : Nat) (R Z : List (Blk × List Value)) : (rowsInj n R).le (rowsInj n (R ++ Z)) := by
  intro a B h
  unfold rowsInj at h ⊢
  split at h
  · rename_i h1; rw [if_pos h1]; exact h
  · rename_i h1
    rw [if_neg h1]
    rw [Option.map_eq_some_iff] at h ⊢
    obtain ⟨r, h2, h3⟩ := h
    exact ⟨r, by rw [List.getElem?_append_left (List.getElem?_eq_some_iff.1 h2).1]; exact h2, h3⟩
theorem Lay.snoc (h : Lay w n R) {r : Blk × List Value} (hr : ∃ cs' T fr, w.heap[r.1.b]? = some (.cells cs' T fr) ∧ cs'.size = r.1.n ∧ r.1.sh + r.2.length ≤ r.1.n ∧
    ∀ (j : Nat) (x : Value), r.2[j]? = some x → scal x ∧ ∃ y, cs'[r.1.sh + j]? = some y ∧ VR (rowsInj n R) x y) : Lay w n (R ++ [r]) := by
  intro i q hi
  have up : ∀ {r : Blk × List Value}, (∃ cs' T fr, w.heap[r.1.b]? = some (.cells cs' T fr) ∧ cs'.size = r.1.n ∧ r.1.sh + r.2.length ≤ r.1.n ∧
    ∀ (j : Nat) (x : Value), r.2[j]? = some x → scal x ∧ ∃ y, cs'[r.1.sh + j]? = some y ∧ VR (rowsInj n R) x y) → ∃ cs' T fr, w.heap[r.1.b]? = some (.cells cs' T fr) ∧ cs'.size = r.1.n ∧ r.1.sh + r.2.length ≤ r.1.n ∧
    ∀ (j : Nat) (x : Value), r.2[j]? = some x → scal x ∧ ∃ y, cs'[r.1.sh + j]? = some y ∧ VR (rowsInj n (R ++ [q])) x y := by
    rintro r ⟨cs', T, fr, h1, h2, h3, h4⟩
    exact ⟨cs', T, fr, h1, h2, h3, fun j x hx => let ⟨a, y, b, c⟩ := h4 j x hx; ⟨a, y, b, c.mono (rowsInj_le _ _ _)⟩⟩
  by_cases hl : i < R.length
  · rw [List.getElem?_append_left hl] at hi
    obtain ⟨cs', T, fr, h1, h2, h3, h4⟩ := h i q hi
    exact ⟨cs', T, fr, h1, h2, h3, fun j x hx => let ⟨a, y, b, c⟩ := h4 j x hx; ⟨a, y, b, c.mono (rowsInj_le _ _ _)⟩⟩
  · rw [List.getElem?_append_right (by omega)] at hi
    have h0 : i - R.length = 0 := by
      have := (List.getElem?_eq_some_iff.1 hi).1
      simp at this; omega
    rw [h0] at hi
    cases hi
    obtain ⟨cs', T, fr, h1, h2, h3, h4⟩ := hr
    exact ⟨cs', T, fr, h1, h2, h3, fun j x hx => let ⟨a, y, b, c⟩ := h4 j x hx; ⟨a, y, b, c.mono (rowsInj_le _ _ _)⟩⟩
theorem rowsSt_next (n : Nat) (R : List (Blk × List Value)) : (rowsSt n R).next = n + R.length := rfl
theorem rowsSt_low (n : Nat) (R Z : List (Blk × List Value)) : Low (n + R.length) (rowsSt n R) (rowsSt n (R ++ Z)) := by
  refine ⟨Nat.le_refl _, by rw [rowsSt_next, rowsSt_next, List.length_append]; omega, fun a ha => ?_⟩
  rw [rowsSt_get, rowsSt_get]
  by_cases h : n ≤ a
  · rw [if_pos h, if_pos h, List.getElem?_append_left (by omega)]
  · rw [if_neg h, if_neg h]
def Stays (P : St → Value → Prop) : Prop := ∀ s t x, Low s.next s t → P s x → P t x
def Opens (w : World) (n : Nat) (y : Value) (P : St → Value → Prop) : Prop := ∀ R, Lay w n R → ∃ Z x, Lay w n (R ++ Z) ∧ VR (rowsInj n (R ++ Z)) x y ∧ scal x ∧ P (rowsSt n (R ++ Z)) x
theorem Opens.mono {y : Value} {P Q : St → Value → Prop} (h : Opens w n y P) (k : ∀ s x, P s x → Q s x) : Opens w n y Q := fun R hR =>
  let ⟨Z, x, h1, h2, h3, h4⟩ := h R hR; ⟨Z, x, h1, h2, h3, k _ _ h4⟩
theorem opens_plain {y : Value} (h : ∀ ι, VR ι y y) (hs : scal y) : Opens w n y fun _ x => x = y := fun R hR => ⟨[], y, by rwa [List.append_nil], h _, hs, rfl⟩
theorem opens_cells : ∀ (ys : List Value) (P : Nat → St → Value → Prop), (∀ i, Stays (P i)) → (∀ i y, ys[i]? = some y → Opens w n y (P i)) → ∀ R, Lay w n R →
    ∃ (Z : List (Blk × List Value)) (xs : List Value), Lay w n (R ++ Z) ∧ xs.length = ys.length ∧ (∀ i x y, xs[i]? = some x → ys[i]? = some y → VR (rowsInj n (R ++ Z)) x y ∧ scal x ∧ P i (rowsSt n (R ++ Z)) x)
  | [], P, _, _, R, hR => ⟨[], [], by rwa [List.append_nil], rfl, by intro i x y h; simp at h⟩
  | y :: ys, P, hst, h, R, hR => by
    obtain ⟨Z, x, h1, h2, h3, h4⟩ := h 0 y rfl R hR
    obtain ⟨Z', xs, k1, k2, k3⟩ := opens_cells ys (fun i => P (i + 1)) (fun i => hst (i + 1)) (fun i y hy => h (i + 1) y hy) (R ++ Z) h1
    refine ⟨Z ++ Z', x :: xs, by rw [← List.append_assoc]; exact k1, by simp [k2], ?_⟩
    rw [← List.append_assoc]
    intro i x' y' hx hy
    cases i with
    | zero =>
      cases hx; cases hy
      exact ⟨h2.mono (rowsInj_le _ _ _), h3, hst 0 _ _ _ (rowsSt_low n (R ++ Z) Z') h4⟩
    | succ i => exact k3 i x' y' hx hy
theorem opens_slice {a : Addr} {len cap size : Nat} {ys : List Value} {P : Nat → St → Value → Prop} (hs : a.spot = none) (hlc : len ≤ cap) (hc : cap < open_) (hb : a.block < w.heap.size) (hlen : ys.length = len * size)
    (hys : ∀ i y, ys[i]? = some y → w.cell? (a.add i) = some y) (hne : len * size = 0 → ∃ cs' T fr, w.heap[a.block]? = some (.cells cs' T fr) ∧ a.off ≤ cs'.size) (hst : ∀ i, Stays (P i)) (hop : ∀ i y, ys[i]? = some y → Opens w n y (P i)) :
    Opens w n (.slice (some a) len cap) fun s x => ∃ p xs, x = .slice p len cap ∧ Sl s s.next size x xs ∧ xs.length = len * size ∧ ∀ i x, xs[i]? = some x → P i s x := by
  intro R hR
  obtain ⟨Z, xs, k1, k2, k3⟩ := opens_cells ys P hst hop R hR
  obtain ⟨ab, ao, sp⟩ := a
  simp only at hs hb hne
  subst hs
  have hcell : ∀ i y, ys[i]? = some y → ∃ cs' T fr, w.heap[ab]? = some (.cells cs' T fr) ∧ cs'[ao + i]? = some y := by
    intro i y hy
    have h0 := hys i y hy
    rw [add_eq] at h0
    unfold World.cell? at h0
    cases e : w.heap[ab]? with
    | none => simp only [e] at h0; cases h0
    | some o =>
      cases o with
      | cells cs T fr =>
        simp only [e] at h0
        exact ⟨cs, T, fr, rfl, by simpa using h0⟩
      | _ => simp only [e] at h0; cases h0
  obtain ⟨cs', T, fr, hh, hsz, hall⟩ : ∃ cs' T fr, w.heap[ab]? = some (.cells cs' T fr) ∧ ao + xs.length ≤ cs'.size ∧ ∀ i y, ys[i]? = some y → cs'[ao + i]? = some y := by
    by_cases h0 : ys.length = 0
    · obtain ⟨cs', T, fr, h1, h2⟩ := hne (by omega)
      exact ⟨cs', T, fr, h1, by omega, fun i y hy => by have := (List.getElem?_eq_some_iff.1 hy).1; omega⟩
    · obtain ⟨cs', T, fr, h1, h2⟩ := hcell (ys.length - 1) _ (List.getElem?_eq_getElem (by omega))
      refine ⟨cs', T, fr, h1, ?_, fun i y hy => ?_⟩
      · have := (Array.getElem?_eq_some_iff.1 h2).1
        omega
      · obtain ⟨cs'', T', fr', g1, g2⟩ := hcell i y hy
        rw [h1] at g1
        cases g1
        exact g2
  let r : Blk × List Value := (⟨ab, ao, cs'.size, 1⟩, xs)
  have hrow : Lay w n ((R ++ Z) ++ [r]) := k1.snoc ⟨cs', T, fr, hh, rfl, hsz, fun j x hx => by
    have hj : j < ys.length := by rw [← k2]; exact (List.getElem?_eq_some_iff.1 hx).1
    obtain ⟨g1, g2, _⟩ := k3 j x ys[j] hx (List.getElem?_eq_getElem hj)
    exact ⟨g2, _, hall j _ (List.getElem?_eq_getElem hj), g1⟩⟩
  have hget : ((R ++ Z) ++ [r])[(R ++ Z).length]? = some r := by simp
  refine ⟨Z ++ [r], .slice (some ⟨n + (R ++ Z).length, 0, none⟩) len cap, by rw [← List.append_assoc]; exact hrow, ?_, trivial, ?_⟩
  · rw [← List.append_assoc]
    exact VR.laid hget rfl rfl rfl hc hlc
  · rw [← List.append_assoc]
    refine ⟨_, xs, rfl, rows_sl hget (by rw [k2, hlen]) ⟨hlc, hc⟩, by rw [k2, hlen], fun i x hx => ?_⟩
    have hj : i < ys.length := by rw [← k2]; exact (List.getElem?_eq_some_iff.1 hx).1
    exact hst i _ _ _ (rowsSt_low n (R ++ Z) [r]) (k3 i x ys[i] hx (List.getElem?_eq_getElem hj)).2.2
theorem opens_nil : Opens w n (.slice none 0 0) fun _ x => x = .slice none 0 0 := opens_plain (fun _ => .slN) trivial
theorem stays_sl {size : Nat} {cs : List Value} : Stays fun s x => Sl s s.next size x cs := fun _ _ _ hl h => (h.low hl (Nat.le_refl _)).wide hl.2.1
end
/- Slices among the arguments. -/
section
variable {P : Program} {w : World}
theorem rowAt_off {fits : TypeId → Bool} {d : Nat} {e : TypeId} {count off n : Nat} (h : rowAt P fits d e count off n = true) : off ≤ count * P.cellsOf e := by
  cases d with
  | zero => simp [rowAt] at h
  | succ d =>
    unfold rowAt at h
    simp only at h
    split at h
    · cases h
    · rename_i hs
      have hpos : 0 < P.cellsOf e := Nat.pos_of_ne_zero hs
      have hdm := Nat.div_add_mod off (P.cellsOf e)
      have hmod := Nat.mod_lt off hpos
      rw [Bool.or_eq_true] at h
      rcases h with h | h
      · simp only [Bool.and_eq_true, beq_iff_eq, decide_eq_true_eq] at h
        have h1 : off / P.cellsOf e ≤ count := by omega
        have := Nat.mul_le_mul_right (P.cellsOf e) h1
        rw [Nat.mul_comm] at hdm
        omega
      · rw [Bool.and_eq_true, decide_eq_true_eq] at h
        have h1 : off / P.cellsOf e + 1 ≤ count := h.1
        have := Nat.mul_le_mul_right (P.cellsOf e) h1
        rw [Nat.mul_comm] at hdm
        rw [Nat.add_mul] at this
        omega
theorem liesAt_off : ∀ {d : Nat} {e : TypeId} {count off : Nat} {u : TypeId} {n : Nat}, liesAt P d e count off u n = true → off ≤ count * P.cellsOf e
  | 0, _, _, _, _, _, h => by simp [liesAt] at h
  | d + 1, e, count, off, u, n, h => by
    unfold liesAt at h
    rw [Bool.or_eq_true] at h
    rcases h with h | h
    · exact rowAt_off h
    · split at h
      · exact liesAt_off h
      · cases h
theorem okCell_slice2 {r : Reach} {base : Nat} {t e : TypeId} {v : Value} (ht : P.underlying t = some (.slice e)) (h : Cell.okWide P w r base t v) : v = .slice none 0 0 ∨ ∃ a n c, v = .slice (some a) n c ∧ n ≤ c ∧ a.spot = none ∧ a.block < w.heap.size ∧ ∃ cs' T fr, w.heap[a.block]? = some (.cells cs' T fr) ∧ a.off ≤ cs'.size := by
  cases v with
  | slice a n c =>
    simp only [Cell.okWide, ht, Cell.ok] at h
    cases a with
    | none =>
      cases n <;> cases c <;> simp_all
    | some a =>
      right
      simp only at h
      obtain ⟨h1, _, _, h3, row, cells, h4, h5⟩ := h
      refine ⟨a, n, c, rfl, h1, h3, ?_⟩
      unfold World.shape? at h4
      cases hh : w.heap[a.block]? with
      | none => rw [hh] at h4; simp at h4
      | some o =>
        rw [hh] at h4
        cases o with
        | cells cs T fr =>
          simp only [Option.some.injEq, Prod.mk.injEq] at h4
          obtain ⟨rfl, rfl⟩ := h4
          refine ⟨(Array.getElem?_eq_some_iff.1 hh).1, cs, T, fr, rfl, ?_⟩
          have := liesAt_off h5
          exact Nat.le_trans this (Nat.div_mul_le_self _ _)
        | _ => simp at h4
  | _ => simp [Cell.okWide, ht, Cell.ok] at h
end
section
variable {H : Type} {enc : TypeId × Value → H} {P : Program} {w : World} {base n : Nat} {t e : TypeId} {v : Value} {fuel : Nat} {d : DataW H} {p : List MemPlace}
open Go.ChangeShapes Go.WideShapes
theorem size_weight {xs ys : List (DataW H)} (ht : P.underlying t = some (.slice e)) (hw : ∀ x ∈ DataW.weights P t (.slice xs ys), x ≤ reachBytes) : (xs.length + ys.length) * P.bytesOf e ≤ reachBytes := by
  have e : DataW.weights P t (.slice xs ys) = (xs.length + ys.length) * P.bytesOf e :: (DataW.weightsAll P e xs ++ DataW.weightsAll P e ys) := by
    rw [DataW.weights, ht]
  rw [e] at hw
  exact hw _ (List.mem_cons_self ..)
theorem weights_head {t : TypeId} {d : DataW H} {ts : List TypeId} {ds : List (DataW H)} (h : (DataW.weightsEach P (t :: ts) (d :: ds)).all (fun x => decide (x ≤ reachBytes)) = true) : (∀ x ∈ DataW.weights P t d, x ≤ reachBytes) ∧ (DataW.weightsEach P ts ds).all (fun x => decide (x ≤ reachBytes)) = true := by
  rw [DataW.weightsEach, List.all_append, Bool.and_eq_true] at h
  exact ⟨fun x hx => of_decide_eq_true (List.all_eq_true.1 h.1 x hx), h.2⟩
theorem weights_mem : ∀ {ts : List TypeId} {ds : List (DataW H)} {i : Nat} {t : TypeId} {d : DataW H}, ts[i]? = some t → ds[i]? = some d → ∀ x ∈ DataW.weights P t d, x ∈ DataW.weightsEach P ts ds
  | [], _, i, _, _, h, _ => by simp at h
  | _ :: _, [], i, _, _, _, h => by simp at h
  | u :: ts, e :: ds, 0, t, d, h1, h2 => by
    intro x hx
    simp only [List.getElem?_cons_zero, Option.some.injEq] at h1 h2
    subst h1 h2
    rw [DataW.weightsEach]
    exact List.mem_append_left _ hx
  | u :: ts, e :: ds, i + 1, t, d, h1, h2 => by
    intro x hx
    simp only [List.getElem?_cons_succ] at h1 h2
    rw [DataW.weightsEach]
    exact List.mem_append_right _ (weights_mem h1 h2 x hx)
theorem field_arg {fs : Array Field} {cs : List Value} {x : DataW H × List MemPlace} (ht : P.underlying t = some (.struct fs)) (hf : DataW.trod enc P w 0 (fun _ => true) true fuel t cs = some x) (hw : ∀ y ∈ DataW.weights P t x.1, y ≤ reachBytes)
    {i : Nat} {fd : Field} (hi : fs[i]? = some fd) : ∃ (n : Nat) (y : DataW H × List MemPlace), DataW.trod enc P w 0 (fun _ => true) true n fd.type ((cs.drop fd.offset).take (P.cellsOf fd.type)) = some y ∧ ∀ z ∈ DataW.weights P fd.type y.1, z ≤ reachBytes := by
  obtain ⟨xs, n, _, rfl, _, hxl, hall⟩ := DataW.trod_struct ht hf
  have h1 := hall i fd hi
  have hlt : i < xs.length := by rw [hxl]; exact (Array.getElem?_eq_some_iff.1 hi).1
  refine ⟨n, xs[i], by rw [h1, List.getElem?_eq_getElem hlt], fun z hz => hw z ?_⟩
  have e : DataW.weights P t (.agg (xs.map (·.1))) = DataW.weightsEach P (fs.toList.map (·.type)) (xs.map (·.1)) := by
    rw [DataW.weights, ht]
  show z ∈ DataW.weights P t (.agg (xs.map (·.1)))
  rw [e]
  refine weights_mem (i := i) (t := fd.type) (d := xs[i].1) ?_ ?_ z hz
  · rw [List.getElem?_map, ← Array.getElem?_toList.symm, hi]; rfl
  · rw [List.getElem?_map, List.getElem?_eq_getElem hlt]; rfl
theorem slice_arg {k bytes : Nat} {Q : Nat → Value → Prop} (ht : P.underlying t = some (.slice e)) (hc : P.cellsOf e = k) (hb : P.bytesOf e = bytes) (hb0 : 0 < bytes) (hv : Cell.okWide P w .any base t v)
    (hf : DataW.trod enc P w 0 (fun _ => true) true fuel t [v] = some (d, p)) (hw : ∀ x ∈ DataW.weights P t d, x ≤ reachBytes)
    (hQ : ∀ (fuel : Nat) cs x, DataW.trod enc P w 0 (fun _ => true) true fuel e cs = some x → cs.length = k ∧ ∀ j y, cs[j]? = some y → Q j y) (hst : ∀ j y, Q j y → (∀ ι, VR ι y y) ∧ scal y) :
    ∃ (m : Nat) (ys : List Value), ys.length = m * k ∧ (∀ i j, i < m → j < k → ∃ y, ys[i * k + j]? = some y ∧ Q j y) ∧ m * bytes ≤ reachBytes ∧ Opens w n v fun s x => Sl s s.next k x ys ∧ ∃ q c, x = .slice q m c := by
  rcases okCell_slice2 ht hv with rfl | ⟨a, m, c, rfl, k1, k2, k3, k4⟩
  · refine ⟨0, [], by simp, by intro i j h; omega, by simp, opens_nil.mono ?_⟩
    rintro s x rfl
    exact ⟨.nil, none, 0, rfl⟩
  rcases Go.Deep.open_slice ht hf with ⟨hcs, _⟩ | ⟨a', len, cap, mm, nn, D, Pl, hcs, _, hle, _, rfl, hx, hel⟩
  · cases hcs
  cases hcs
  cases hx
  try simp only [if_true] at hel
  try simp only [if_true] at hw
  have hwt := size_weight ht hw
  rw [hb] at hwt
  simp only [List.length_map, List.length_range] at hwt
  have hcap : c * bytes ≤ reachBytes := by rw [show m + (c - m) = c from by omega] at hwt; exact hwt
  have hcb : c ≤ reachBytes := Nat.le_trans (Nat.le_mul_of_pos_right c hb0) hcap
  rw [hc] at hel
  have hex : ∀ i, i < m → ∃ cs' : List Value, cs'.length = k ∧ (∀ j y, cs'[j]? = some y → Q j y ∧ w.cell? (a.add (i * k + j)) = some y) := by
    intro i hi
    obtain ⟨cs', h1, h2⟩ := hel i (by omega)
    obtain ⟨h3, h4⟩ := hQ _ _ _ h2
    obtain ⟨_, h5, h6⟩ := World.cells?_some h1
    refine ⟨cs', h3, fun j y hy => ⟨h4 j y hy, ?_⟩⟩
    have hj : j < k := by rw [← h3]; exact (List.getElem?_eq_some_iff.1 hy).1
    have := h6 j hj
    rw [Go.Deep.add_add, hy] at this
    exact this
  obtain ⟨C, hC⟩ := Go.Deep.choose_lt (α := List Value) hex
  have hall : ∀ m', m' ≤ m → ∃ ys : List Value, ys.length = m' * k ∧ ∀ i j, i < m' → j < k → ∃ y, ys[i * k + j]? = some y ∧ Q j y ∧ w.cell? (a.add (i * k + j)) = some y := by
    intro m'
    induction m' with
    | zero => exact fun _ => ⟨[], by simp, by intro i j h; omega⟩
    | succ m' ih =>
      intro hm
      obtain ⟨ys, h1, h2⟩ := ih (by omega)
      obtain ⟨h3, h4⟩ := hC m' (by omega)
      refine ⟨ys ++ C m', by rw [List.length_append, h1, h3, Nat.add_mul, Nat.one_mul], fun i j hi hj => ?_⟩
      by_cases him : i < m'
      · obtain ⟨y, g1, g2⟩ := h2 i j him hj
        have : i * k + j < ys.length := (List.getElem?_eq_some_iff.1 g1).1
        exact ⟨y, by rw [List.getElem?_append_left this]; exact g1, g2⟩
      · have : i = m' := by omega
        subst this
        have hj' : j < (C i).length := by rw [h3]; exact hj
        refine ⟨(C i)[j], by rw [List.getElem?_append_right (by omega), h1, Nat.add_sub_cancel_left, List.getElem?_eq_getElem hj'], h4 j _ (List.getElem?_eq_getElem hj')⟩
  obtain ⟨ys, g1, g2⟩ := hall m (Nat.le_refl _)
  have at_ : ∀ i y, ys[i]? = some y → 0 < k ∧ ∃ j, Q j y ∧ w.cell? (a.add i) = some y := by
    intro i y hy
    have hi : i < m * k := by rw [← g1]; exact (List.getElem?_eq_some_iff.1 hy).1
    have hk : 0 < k := by
      rcases Nat.eq_zero_or_pos k with h | h
      · subst h; omega
      · exact h
    obtain ⟨y', h1, h2, h3⟩ := g2 (i / k) (i % k) ((Nat.div_lt_iff_lt_mul hk).2 hi) (Nat.mod_lt _ hk)
    have e : i / k * k + i % k = i := by rw [Nat.mul_comm]; exact Nat.div_add_mod i k
    rw [e] at h1 h3
    rw [hy] at h1
    cases h1
    exact ⟨hk, _, h2, h3⟩
  refine ⟨m, ys, g1, fun i j hi hj => let ⟨y, h1, h2, _⟩ := g2 i j hi hj; ⟨y, h1, h2⟩, Nat.le_trans (Nat.mul_le_mul_right _ k1) hcap, ?_⟩
  refine (opens_slice (P := fun i _ x => ys[i]? = some x) k2 k1 (by unfold reachBytes at hcb; unfold open_; omega) k3 g1 (fun i y hy => (at_ i y hy).2.choose_spec.2) (fun _ => k4) (fun i _ _ _ _ h => h) (fun i y hy => ?_)).mono ?_
  · obtain ⟨_, j, hq, _⟩ := at_ i y hy
    exact (opens_plain (hst j y hq).1 (hst j y hq).2).mono (by rintro _ _ rfl; exact hy)
  · rintro s x ⟨q, xs, rfl, h1, h2, h3⟩
    have : xs = ys := by
      apply List.ext_getElem?
      intro i
      by_cases hi : i < xs.length
      · rw [List.getElem?_eq_getElem hi, h3 i xs[i] (List.getElem?_eq_getElem hi)]
      · rw [List.getElem?_eq_none (by omega), List.getElem?_eq_none (by omega)]
    subst this
    exact ⟨h1, q, c, rfl⟩
theorem vr_int (k : IntKind) (z : Int) : (∀ ι, VR ι (.int k z) (.int k z)) ∧ scal (.int k z) := ⟨fun _ => .int _ _, trivial⟩
theorem vr_str (b : ByteArray) : (∀ ι, VR ι (.string b) (.string b)) ∧ scal (.string b) := ⟨fun _ => .string _, trivial⟩
theorem vr_bool (b : Bool) : (∀ ι, VR ι (.bool b) (.bool b)) ∧ scal (.bool b) := ⟨fun _ => .bool _, trivial⟩
theorem one_cell {Q : Nat → Value → Prop} {cs : List Value} {y : Value} (h : cs = [y]) (hq : Q 0 y) : cs.length = 1 ∧ ∀ j z, cs[j]? = some z → Q j z := by
  subst h
  refine ⟨rfl, fun j z hz => ?_⟩
  cases j with
  | zero => cases hz; exact hq
  | succ j => simp at hz
theorem bytes_arg (ht : P.underlying t = some (.slice e)) (he : P.underlying e = some (.int .u8)) (hc : P.cellsOf e = 1) (hb : P.bytesOf e = 1) (hv : Cell.okWide P w .any base t v)
    (hf : DataW.trod enc P w 0 (fun _ => true) true fuel t [v] = some (d, p)) (hw : ∀ x ∈ DataW.weights P t d, x ≤ reachBytes) :
    ∃ l : List UInt8, l.length ≤ reachBytes ∧ Opens w n v fun s x => Sl s s.next 1 x (l.map ofByte) := by
  obtain ⟨m, ys, h1, h2, h3, h4⟩ := slice_arg (n := n) (Q := fun _ y => ∃ c : UInt8, y = ofByte c) ht hc hb (by decide) hv hf hw (fun fuel cs x h => by
    obtain ⟨z, rfl, _, hz⟩ := DataW.trod_int he h
    refine one_cell rfl ?_
    have hz : (decide (IntKind.u8.min ≤ z) && decide (z ≤ IntKind.u8.max)) = true := hz
    rw [Bool.and_eq_true, decide_eq_true_eq, decide_eq_true_eq] at hz
    have h1 : (0 : Int) ≤ z := hz.1
    have h2 : z ≤ 255 := hz.2
    refine ⟨UInt8.ofNat z.toNat, ?_⟩
    rw [ofByte_ofNat]
    congr 1
    omega) (by rintro _ _ ⟨c, rfl⟩; exact vr_int _ _)
  have hex : ∀ i, i < m → ∃ c : UInt8, ys[i]? = some (ofByte c) := by
    intro i hi
    obtain ⟨y, g1, c, rfl⟩ := h2 i 0 hi (by decide)
    exact ⟨c, by simpa using g1⟩
  obtain ⟨C, hC⟩ := Go.Deep.choose_lt (α := UInt8) hex
  have e : ys = ((List.range m).map C).map ofByte := by
    apply List.ext_getElem?
    intro i
    by_cases hi : i < m
    · rw [hC i hi, List.getElem?_map, List.getElem?_map, List.getElem?_range hi]; rfl
    · rw [List.getElem?_eq_none (by omega), List.getElem?_eq_none (by simp; omega)]
  refine ⟨(List.range m).map C, by simp; omega, h4.mono fun s x h => ?_⟩
  rw [← e]
  exact h.1
end
end
end Go.Ev

namespace Go.Ev
noncomputable section
theorem sameV_bool (b : Bool) : sameV (.bool b) (.bool b) = true := by cases b <;> rfl
theorem sameV_str (b : ByteArray) : sameV (.string b) (.string b) = true := by
  show bytesEq b.data.toList b.data.toList = true
  rw [bytesEq_eq]; simp
theorem addrEq_refl {a : Addr} (h : a.spot = none) : addrEq a a = true := by
  unfold addrEq
  rw [Nat.beq_refl, Nat.beq_refl, h]; rfl
theorem sameV_slice {p : Option Addr} {n c : Nat} (h : ∀ a, p = some a → a.spot = none) : sameV (.slice p n c) (.slice p n c) = true := by
  show (oAddrEq p p && Nat.beq n n && Nat.beq c c) = true
  rw [Nat.beq_refl, Nat.beq_refl]
  cases p with
  | none => rfl
  | some a => show (addrEq a a && true && true) = true; rw [addrEq_refl (h a rfl)]; rfl
theorem sameL_refl : ∀ {l : List Value}, (∀ v ∈ l, sameV v v = true) → sameL l l = true
  | [], _ => rfl
  | v :: l, h => by
    show (sameV v v && sameL l l) = true
    rw [h v (by simp), sameL_refl fun x hx => h x (List.mem_cons_of_mem _ hx)]; rfl
theorem same_agg {l : List Value} (h : ∀ v ∈ l, sameV v v = true) : same (.agg ⟨l⟩) (.agg ⟨l⟩) = true := sameL_refl h
theorem same_str (b : ByteArray) : same (.string b) (.string b) = true := sameV_str b
theorem same_slice {p : Option Addr} {n c : Nat} (h : ∀ a, p = some a → a.spot = none) : same (.slice p n c) (.slice p n c) = true := sameV_slice h
theorem Sl.spot {s : St} {hi size n c : Nat} {p : Option Addr} {cs : List Value} (h : Sl s hi size (.slice p n c) cs) : ∀ a, p = some a → a.spot = none := by
  cases h with
  | nil => intro a h; cases h
  | mk _ _ _ _ => intro a h; cases h; rfl
section
variable {E : Env} {fr : Fr} {s : St} {b : Nat} {Q : Fr → St → Prop} {ops : List COper} {d : Option Nat} {ix : Nat} {l : List (Option Nat × Cop × Option (Option Nat × Bool))}
theorem again_nil : againOk fr s [] = true := rfl
theorem again_cons {t : Nat} {op : Cop} {v : Value} {s' : St} (h : (cop op).run fr s 0 = some (v, s')) (ht : fr.get t = some v) (hs : same v v = true) (k : againOk fr s l = true) : againOk fr s ((some t, op, none) :: l) = true := by
  show cnd true (Option.rec false (fun r => cnd (same r.1 (orUndef (fr.get t))) (againOk fr s l) false) ((cop op).run fr s 0)) (againOk fr s l) = true
  rw [h, ht]
  show cnd (same v v) (againOk fr s l) false = true
  rw [hs, k]; rfl
theorem again_load1 {t a : Nat} {p : Addr} {v : Value} (ha : fr.get a = some (.pointer (some p))) (hc : s.cell p = some v) (ht : fr.get t = some v) (hs : same v v = true) (k : againOk fr s l = true) : againOk fr s ((some t, .load1 (.t a), none) :: l) = true :=
  again_cons (v := v) (s' := s) (by
    show ob (asAddr ((Arg.t a).ev fr)) (fun a => om (s.cell a) fun v => (v, s)) = _
    rw [ev_t, ha, orUndef_some, asAddr_pointer, ob_some, hc]; rfl) ht hs k
theorem again_loadN {t a n : Nat} {p : Addr} {cs : List Value} (ha : fr.get a = some (.pointer (some p))) (hc : s.row p n = some cs) (ht : fr.get t = some (.agg ⟨cs⟩)) (hs : same (.agg ⟨cs⟩) (.agg ⟨cs⟩) = true) (k : againOk fr s l = true) : againOk fr s ((some t, .loadN n (.t a), none) :: l) = true :=
  again_cons (v := .agg ⟨cs⟩) (s' := s) (by
    show ob (asAddr ((Arg.t a).ev fr)) (fun a => om (s.row a n) fun l => (Value.agg ⟨l⟩, s)) = _
    rw [ev_t, ha, orUndef_some, asAddr_pointer, ob_some, hc]; rfl) ht hs k
theorem Wo_callA {f : FuncId} {xs : List Arg} {args : List Value} {y : Option Nat × Cop × Option (Option Nat × Bool)} (hp : E.prim f = none) (ha : evL fr xs = args)
    (h : Cv E f args s fun v s' => againOk fr s' (y :: l) = true ∧ Wo E b ops (putD fr d v) s' Q) : Wo E b (⟨d, .callF f xs, none, ix, y :: l⟩ :: ops) fr s Q := by
  obtain ⟨n, v, s1, h1, h0, m, f2, s2, h2, h3⟩ := h
  refine ⟨max n m, f2, s2, ?_, h3⟩
  rw [ops_again, st_callF, ha]
  have e : one1 (callF E (runC E (max n m))) f args s = some (v, s1) := by
    unfold one1 callF
    rw [hp]
    show oneL (callC E (runC E (max n m)) f args s) = _
    rw [callC_run (Nat.le_max_left n m) h1]; rfl
  rw [e, ob_some]
  show must (againOk fr s1 (y :: l)) _ = _
  rw [h0, must_true]
  exact runOps_mono (one1_mono fun f a s => callF_mono (runC_mono (Nat.le_max_right n m)) f a s) _ _ _ _ _ h2
end
theorem or_u8 (a i : Nat) (hi : i ≤ 6) (h : a < 2 ^ i) : binOp .or (.int .u8 (a : Int)) (.int .u8 ((2 ^ i : Nat) : Int)) = some (.int .u8 ((a + 2 ^ i : Nat) : Int)) := by
  have hp : (2 : Nat) ^ i ≤ 2 ^ 6 := Nat.pow_le_pow_right (by omega) hi
  rw [bin_int rfl]
  show some (Value.int .u8 (wr .u8 ((BitVec.ofInt 8 _ ||| BitVec.ofInt 8 _).toNat : Int))) = _
  have o : ∀ n : Nat, n < 256 → (BitVec.ofInt 8 (n : Int)).toNat = n := by
    intro n hn
    rw [BitVec.toNat_ofInt]; omega
  have e : (BitVec.ofInt 8 (a : Int) ||| BitVec.ofInt 8 ((2 ^ i : Nat) : Int)).toNat = a + 2 ^ i := by
    rw [BitVec.toNat_or, o _ (by omega), o _ (by omega), Nat.or_comm]
    have h5 := Nat.two_pow_add_eq_or_of_lt (i := i) (b := a) h 1
    rw [Nat.mul_one] at h5
    rw [← h5, Nat.add_comm]
  rw [e, wr_u8_nat, Nat.mod_eq_of_lt (by omega)]
end
end Go.Ev

namespace Go.Ev
noncomputable section
def Row (s : St) (a : Nat) (cs : List Value) : Prop := ∃ es, s.get a = some (.cells cs es .ex)
def But (a : Nat) (s t : St) : Prop := s.next ≤ t.next ∧ ∀ b, b < s.next → b ≠ a → t.get b = s.get b
section
variable {a b i n o : Nat} {s t u : St} {cs vs : List Value}
theorem nilOk_ptr (x : Addr) : nilOk (.pointer (some x)) = true := rfl
theorem Row.cell (h : Row s a cs) (i : Nat) : s.cell ⟨a, i, none⟩ = cs[i]? := by
  obtain ⟨es, h⟩ := h
  show ob (asCells (s.get a)) _ = _
  rw [h]
  exact nthL_eq _ _
theorem Row.row (h : Row s a cs) (hn : n = cs.length) : s.row ⟨a, 0, none⟩ n = some cs := by
  subst hn
  obtain ⟨es, h⟩ := h
  exact row_iff.2 ⟨cs, es, .ex, h, by simp, by simp⟩
theorem Row.part (h : Row s a cs) (hn : i + n ≤ cs.length) : s.row ⟨a, i, none⟩ n = some ((cs.drop i).take n) := by
  obtain ⟨es, h⟩ := h
  exact row_iff.2 ⟨cs, es, .ex, h, hn, rfl⟩
theorem Row.put (h : Row s a cs) (hl : o + vs.length ≤ cs.length) : ∃ t, s.put ⟨a, o, none⟩ vs = some t ∧ Row t a (splice cs o vs) ∧ t.next = s.next ∧ ∀ b, b ≠ a → t.get b = s.get b := by
  obtain ⟨es, h1⟩ := h
  refine ⟨s.set a (.cells (splice cs o vs) es .ex), ?_, ⟨es, St.get_set_same _ _ _⟩, rfl, fun b hb => St.get_set_ne _ _ (Ne.symm hb)⟩
  show ob (asCells (s.get a)) (fun c => must c.2.2.writes (must (Nat.ble (o + lenL vs) (lenL c.1)) (some (s.set a (.cells (splice c.1 o vs) c.2.1 c.2.2))))) = _
  rw [h1]
  show must true (must (Nat.ble (o + lenL vs) (lenL cs)) _) = _
  rw [must_true, lenL_eq, lenL_eq, Nat.ble_eq_true_of_le hl, must_true]
theorem Row.low {lo : Nat} (h : Row s a cs) (k : Low lo s t) (hl : a < lo) : Row t a cs := by obtain ⟨es, h⟩ := h; exact ⟨es, by rw [k.2.2 a hl]; exact h⟩
theorem Row.but (h : Row s b cs) (k : But a s t) (hb : b < s.next) (hab : b ≠ a) : Row t b cs := by obtain ⟨es, h⟩ := h; exact ⟨es, by rw [k.2 b hb hab]; exact h⟩
theorem Row.skip (h : Row s a cs) (n : Nat) : Row (s.skip n) a cs := by obtain ⟨es, h⟩ := h; exact ⟨es, by rw [get_skip]; exact h⟩
theorem But.refl (a : Nat) (s : St) : But a s s := ⟨Nat.le_refl _, fun _ _ _ => rfl⟩
theorem But.trans (h : But a s t) (k : But a t u) : But a s u := ⟨Nat.le_trans h.1 k.1, fun b hb hab => (k.2 b (Nat.lt_of_lt_of_le hb h.1) hab).trans (h.2 b hb hab)⟩
theorem Low.but (h : Low s.next s t) (a : Nat) : But a s t := ⟨h.2.1, fun b hb _ => h.2.2 b hb⟩
theorem but_put (hn : t.next = s.next) (h : ∀ b, b ≠ a → t.get b = s.get b) : But a s t := ⟨Nat.le_of_eq hn.symm, fun b _ hb => h b hb⟩
theorem But.new (h : But a s t) (ha : s.next ≤ a) : Low s.next s t := ⟨Nat.le_refl _, h.1, fun b hb => h.2 b hb (by omega)⟩
theorem But.lows {lo : Nat} (h : But a s t) (k : Low lo t u) (hl : s.next ≤ lo) : But a s u := ⟨Nat.le_trans h.1 k.2.1, fun b hb hab => (k.2.2 b (Nat.lt_of_lt_of_le hb hl)).trans (h.2 b hb hab)⟩
theorem Sl.but {hi size : Nat} {v : Value} (h : Sl s hi size v cs) (k : But a s t) (hh : hi ≤ s.next) (ha : hi ≤ a) : Sl t hi size v cs := by
  cases h with
  | nil => exact .nil
  | mk hb hg hl hc => exact .mk hb (by rw [k.2 _ (by omega) (by omega)]; exact hg) hl hc
theorem Gr.but {lo size : Nat} {v : Value} (h : Gr s lo size v cs) (k : But a s t) (ha : a < lo) : Gr t lo size v cs := by
  cases h with
  | nil => exact .nil
  | mk hlo hb hg he hn => exact .mk hlo (Nat.lt_of_lt_of_le hb k.1) (by rw [k.2 _ hb (by omega)]; exact hg) he hn
  | ex hlo hb hg hl hn => exact .ex hlo (Nat.lt_of_lt_of_le hb k.1) (by rw [k.2 _ hb (by omega)]; exact hg) hl hn
def Mid (s : St) (lo hi size : Nat) (v : Value) (cs : List Value) : Prop := Sl s hi size v cs ∧ ∀ q n c, v = .slice (some q) n c → lo ≤ q.block
section
variable {lo hi size : Nat} {v : Value}
theorem Gr.mid (h : Gr s lo size v cs) : Mid s lo s.next size v cs := by
  refine ⟨h.sl, fun q n c e => ?_⟩
  cases h with
  | nil => cases e
  | mk hlo _ _ _ _ => cases e; exact hlo
  | ex hlo _ _ _ _ => cases e; exact hlo
theorem Mid.but (h : Mid s lo hi size v cs) (k : But a s t) (hh : hi ≤ s.next) (ha : a < lo ∨ hi ≤ a) : Mid t lo hi size v cs := by
  obtain ⟨h1, h2⟩ := h
  cases h1 with
  | nil => exact ⟨.nil, h2⟩
  | mk hb hg hl hc =>
    have h3 := h2 _ _ _ rfl
    simp only at h3
    exact ⟨.mk hb (by rw [k.2 _ (by omega) (by omega)]; exact hg) hl hc, h2⟩
theorem Mid.low {lo' : Nat} (h : Mid s lo hi size v cs) (k : Low lo' s t) (hh : hi ≤ lo') : Mid t lo hi size v cs := ⟨h.1.low k hh, h.2⟩
theorem Mid.wide {hi' : Nat} (h : Mid s lo hi size v cs) (hh : hi ≤ hi') : Mid s lo hi' size v cs := ⟨h.1.wide hh, h.2⟩
theorem Mid.weak {lo' : Nat} (h : Mid s lo hi size v cs) (hl : lo' ≤ lo) : Mid s lo' hi size v cs := ⟨h.1, fun q n c e => Nat.le_trans hl (h.2 q n c e)⟩
theorem Mid.nil (s : St) (lo hi size : Nat) : Mid s lo hi size (.slice none 0 0) [] := ⟨.nil, fun q n c e => by cases e⟩
theorem Mid.cells (h : Mid s lo hi size v cs) : storable v = true ∧ vcells v = [v] := by
  obtain ⟨_, _, _, rfl, _⟩ := h.1.parts
  exact ⟨rfl, rfl⟩
theorem Gr.cells (h : Gr s lo size v cs) : storable v = true ∧ vcells v = [v] := h.mid.cells
end
theorem fillL_cons (p : Nat × Nat × Value) (ps : List (Nat × Nat × Value)) (cs : List Value) : fillL (p :: ps) cs = must (storable p.2.2) (must (Nat.beq (lenL (vcells p.2.2)) p.2.1) (must (Nat.ble (p.1 + p.2.1) (lenL cs)) (fillL ps (splice cs p.1 (vcells p.2.2))))) := rfl
theorem fill5 {a b c d e z : Value} (ha : storable a = true ∧ vcells a = [a]) (hb : storable b = true ∧ vcells b = [b]) (hc : storable c = true ∧ vcells c = [c]) (hd : storable d = true ∧ vcells d = [d]) (he : storable e = true ∧ vcells e = [e]) :
    fillL [(0, 1, a), (1, 1, b), (2, 1, c), (3, 1, d), (4, 1, e)] [z, z, z, z, z] = some [a, b, c, d, e] := by
  simp only [fillL_cons, ha.1, ha.2, hb.1, hb.2, hc.1, hc.2, hd.1, hd.2, he.1, he.2]; rfl
theorem le_by {a b : Nat} (h : Nat.ble a b = true) : a ≤ b := Nat.le_of_ble_eq_true h
theorem and_two_pow (m i : Nat) : m &&& 2 ^ i = m / 2 ^ i % 2 * 2 ^ i := by
  have h2 : m / 2 ^ i % 2 < 2 := Nat.mod_lt _ (by omega)
  have ht : m.testBit i = decide (m / 2 ^ i % 2 = 1) := Nat.testBit_eq_decide_div_mod_eq
  apply Nat.eq_of_testBit_eq
  intro j
  rw [Nat.testBit_and, Nat.testBit_two_pow]
  by_cases h : m / 2 ^ i % 2 = 1
  · rw [h, Nat.one_mul, Nat.testBit_two_pow]
    by_cases hij : i = j
    · subst hij; rw [ht]; simp [h]
    · simp [hij]
  · have h0 : m / 2 ^ i % 2 = 0 := by omega
    rw [h0, Nat.zero_mul, Nat.zero_testBit]
    by_cases hij : i = j
    · subst hij; rw [ht]; simp [h]
    · simp [hij]
theorem Wo_build {E : Env} {fr : Fr} {Q : Fr → St → Prop} {d : Option Nat} {ix b : Nat} {ops : List COper} {z l : List Value} {ps : List (Nat × Nat × Arg)} (h : fillL (evP fr ps) z = some l) (k : Wo E b ops (putD fr d (.agg ⟨l⟩)) s Q) : Wo E b (⟨d, .build z ps, none, ix, []⟩ :: ops) fr s Q :=
  Wo_op (v := .agg ⟨l⟩) (s' := s) (by rw [st_build, h, om_some]) k
end
end
end Go.Ev
