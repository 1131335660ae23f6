/-
  The other operations.
-/
import Derived.Test.YticaodbgdjjgdaaGreatDoorEvOps
set_option linter.unusedVariables false
set_option linter.unusedSimpArgs false
namespace Go.Ev
open Go (Sem)
section
variable {P : Program} {ι : Inj} {w : World} {base : Nat} {s : St} {o : Oper} {a : Act} {fr : Fr} {id : Nat} {v : Value} {s' : St} {c : Cop}

theorem s_binOp {op : BinOp} {t u : TypeId} {x y : Operand} (ho : o.op = .binOp op t x y u) (hr : rOp P o.op = some c) (hv : Ops ι o a fr) (r : Rel ι base s w) (h : Runs c fr s id v s') : Says P ι base s w o a id c v s' := by
  rw [ho] at hr
  by_cases he : op = .eql
  · subst he; exact s_eq ho (.inl rfl) hr hv r h
  by_cases hn : op = .neq
  · subst hn; exact s_eq ho (.inr rfl) hr hv r h
  have h1 := hv x (by rw [ho]; simp [Op.operands])
  have h2 := hv y (by rw [ho]; simp [Op.operands])
  have : c = .bin op (rArg x) (rArg y) := by
    cases op <;> first | exact absurd rfl he | exact absurd rfl hn | (cases hr; rfl)
  subst this
  obtain ⟨h3, h4⟩ := back_eq h
  exact .mkQ rfl h3 (q_bin ho h4 h1 h2)
theorem s_unOp {op : UnOp} {t : TypeId} {x : Operand} (ho : o.op = .unOp op t x) (hr : rOp P o.op = some c) (hv : Ops ι o a fr) (r : Rel ι base s w) (h : Runs c fr s id v s') : Says P ι base s w o a id c v s' := by
  have h1 := hv x (by rw [ho]; simp [Op.operands])
  rw [ho] at hr; cases hr
  obtain ⟨h3, h4⟩ := back_eq h
  exact .mkQ rfl h3 (q_un ho h4 h1)
theorem s_convert {S D : TypeId} {x : Operand} (ho : o.op = .convert S D x) (hr : rOp P o.op = some c) (hv : Ops ι o a fr) (r : Rel ι base s w) (h : Runs c fr s id v s') : Says P ι base s w o a id c v s' := by
  have h1 := hv x (by rw [ho]; simp [Op.operands])
  rw [ho] at hr
  unfold rOp at hr
  simp only at hr
  split at hr
  · rename_i hS hD
    cases hr
    obtain ⟨n, hn, h⟩ := om_eq.1 h
    cases h
    exact .mkQ rfl rfl (q_convI ho hS hD hn h1)
  · rename_i hS hD
    cases hr
    obtain ⟨b, hb, h⟩ := om_eq.1 h
    cases h
    rw [asStr_eq hb] at h1 ⊢
    exact .mkQ rfl rfl (q_convStr ho hS hD h1.strE h1)
  · rename_i hS hD
    cases hr
    obtain ⟨n, hn, h⟩ := om_eq.1 h
    cases h
    exact .mkQ rfl rfl (q_convIS ho hS hD hn h1)
  · rename_i E hS hD
    split at hr
    · rename_i hE
      cases hr
      obtain ⟨b, hb, h⟩ := ob_eq.1 h
      obtain ⟨h2, h⟩ := must_eq.1 h
      cases h
      rw [asStr_eq hb] at h1
      rw [mapL_eq, lenL_eq]
      exact .mkN rfl fun g1 g2 g3 => d_convSB r ho hS hD hE h1 g1 g2 g3
    · cases hr
  · rename_i E hS hD
    split at hr
    · rename_i hE
      cases hr
      obtain ⟨p, hp, h⟩ := ob_eq.1 h
      obtain ⟨l, hl, h⟩ := ob_eq.1 h
      obtain ⟨b, hb, h⟩ := om_eq.1 h
      cases h
      exact .mkQ rfl rfl (q_convBS r ho hS hD hE h1 hp hl hb)
    · cases hr
  · rename_i T hS hD
    split at hr
    · rename_i n hn
      cases hr
      obtain ⟨p, hp, h2⟩ := ob_eq.1 (show ob (asPtr ((rArg x).ev fr)) (fun p => Option.rec (some ((rArg x).ev fr, s)) (fun a => om (s.cell a) fun _ => ((rArg x).ev fr, s)) p) = some (v, s') from h)
      cases p with
      | none => cases h2; exact .mkQ rfl rfl (q_toUnsafe r ho hS hD hn h1 hp fun a h => by cases h)
      | some a =>
        obtain ⟨u, hu, h3⟩ := om_eq.1 (show om (s.cell a) (fun _ => ((rArg x).ev fr, s)) = some (v, s') from h2)
        cases h3
        exact .mkQ rfl rfl (q_toUnsafe r ho hS hD hn h1 hp fun a h => by cases h; exact ⟨u, hu⟩)
    · cases hr
  · rename_i T hS hD
    split at hr
    · rename_i n hn
      split at hr
      · rename_i hl
        cases hr
        obtain ⟨p, hp, h2⟩ := ob_eq.1 (show ob (asPtr ((rArg x).ev fr)) (fun p => Option.rec (some ((rArg x).ev fr, s)) (fun a => must (Nat.beq a.off 0) (must (isEx (s.get a.block)) (ob (asCells (s.get a.block)) fun c => must (Nat.beq (ety c.2.1) (Nat.succ T)) (must (Nat.beq (lenL c.1) (n + 1)) (some ((rArg x).ev fr, s)))))) p) = some (v, s') from h)
        cases p with
        | none => cases h2; exact .mkQ rfl rfl (q_ofUnsafe r ho hS hD hn hl h1 hp fun a h => by cases h)
        | some a =>
          obtain ⟨h3, H1⟩ := must_eq.1 (show must (Nat.beq a.off 0) (must (isEx (s.get a.block)) (ob (asCells (s.get a.block)) fun c => must (Nat.beq (ety c.2.1) (Nat.succ T)) (must (Nat.beq (lenL c.1) (n + 1)) (some ((rArg x).ev fr, s))))) = some (v, s') from h2)
          obtain ⟨h4, H2⟩ := must_eq.1 H1
          obtain ⟨cc, h5, H3⟩ := ob_eq.1 H2
          obtain ⟨h6, H4⟩ := must_eq.1 H3
          obtain ⟨h7, H5⟩ := must_eq.1 H4
          cases H5
          obtain ⟨cs, es, h8⟩ := isEx_eq h4
          have h9 := asCells_eq h5
          rw [h8] at h9
          simp only [Option.some.injEq, Ob.cells.injEq] at h9
          obtain ⟨e1, e2, _⟩ := h9
          rw [Nat.beq_eq] at h3 h6 h7
          rw [lenL_eq] at h7
          refine .mkQ rfl rfl (q_ofUnsafe r ho hS hD hn hl h1 hp fun a' h => ?_)
          cases h
          exact ⟨h3, cs, es, h8, by rw [e2]; exact h6, by rw [e1]; exact h7⟩
      · cases hr
    · cases hr
  · cases hr
theorem s_makeInterface {t : TypeId} {x : Operand} (ho : o.op = .makeInterface t x) (hr : rOp P o.op = some c) (hv : Ops ι o a fr) (r : Rel ι base s w) (h : Runs c fr s id v s') : Says P ι base s w o a id c v s' := by
  have h1 := hv x (by rw [ho]; simp [Op.operands])
  rw [ho] at hr
  unfold rOp at hr
  simp only at hr
  split at hr
  · cases hr
  · cases hr
  · rename_i d hne hT
    cases hr
    cases h
    exact .mkQ rfl rfl (q_iface ho hT (hne) h1)
theorem lr_ops {xs : List Operand} (h : ∀ x ∈ xs, VR ι ((rArg x).ev fr) (a.eval x)) : LR ι (evL fr (xs.map rArg)) (xs.map a.eval) := by
  unfold evL
  rw [mapL_eq]
  induction xs with
  | nil => exact .nil
  | cons x xs ih => exact .cons (h x (by simp)) (ih fun y hy => h y (by simp [hy]))
theorem s_makeFunc {f : Fn} {xs ys : Array Operand} (ho : o.op = .makeFunc f xs ys) (hr : rOp P o.op = some c) (hv : Ops ι o a fr) (r : Rel ι base s w) (h : Runs c fr s id v s') : Says P ι base s w o a id c v s' := by
  have h1 : ∀ x ∈ xs.toList, VR ι ((rArg x).ev fr) (a.eval x) := fun x hx => hv x (by rw [ho]; simp only [Op.operands, Array.toList_append, List.mem_append]; exact .inl hx)
  have h2 : ∀ x ∈ ys.toList, VR ι ((rArg x).ev fr) (a.eval x) := fun x hx => hv x (by rw [ho]; simp only [Op.operands, Array.toList_append, List.mem_append]; exact .inr hx)
  rw [ho] at hr
  cases f with
  | func g =>
    cases hr
    cases h
    exact .mkQ rfl rfl (q_mkFunc ho (lr_ops h1) (lr_ops h2))
  | _ => cases hr
theorem s_makeMap {t : TypeId} {x : Option Operand} (ho : o.op = .makeMap t x) (hr : rOp P o.op = some c) (hv : Ops ι o a fr) (r : Rel ι base s w) (h : Runs c fr s id v s') : Says P ι base s w o a id c v s' := by
  cases x with
  | none =>
    rw [ho] at hr; cases hr
    cases h
    exact .mkN rfl fun g1 g2 g3 => d_mkMap r ho (by intro h; cases h) (by intro x h; cases h) g1 g2 g3
  | some x =>
    have h1 := hv x (by rw [ho]; simp [Op.operands])
    rw [ho] at hr
    unfold rOp at hr
    simp only at hr
    split at hr
    · rename_i k e hT
      cases hr
      obtain ⟨hi, h⟩ := must_eq.1 h
      cases h
      have hi : (asInt ((rArg x).ev fr)).isSome = true := hi
      obtain ⟨n, hn⟩ := Option.isSome_iff_exists.1 hi
      rw [asInt_eq hn] at h1
      exact .mkN rfl fun g1 g2 g3 => d_mkMap r ho (fun _ => ⟨_, _, hT⟩) (by intro y hy; cases hy; exact ⟨n, h1.intE⟩) g1 g2 g3
    · cases hr
theorem s_makeSlice {t : TypeId} {x y : Operand} (ho : o.op = .makeSlice t x y) (hr : rOp P o.op = some c) (hv : Ops ι o a fr) (r : Rel ι base s w) (h : Runs c fr s id v s') : Says P ι base s w o a id c v s' := by
  have h1 := hv x (by rw [ho]; simp [Op.operands])
  have h2 := hv y (by rw [ho]; simp [Op.operands])
  rw [ho] at hr
  unfold rOp at hr
  simp only at hr
  split at hr
  · rename_i e hT
    obtain ⟨z, hz, hr⟩ := Option.bind_eq_some_iff.1 hr
    obtain ⟨b, hb, hr⟩ := Option.bind_eq_some_iff.1 hr
    obtain ⟨n, hn, hr⟩ := Option.bind_eq_some_iff.1 hr
    split at hr
    · cases hr
    rename_i hcond
    simp only [Bool.or_eq_true, beq_iff_eq, bne_iff_ne, ne_eq, not_or, Decidable.not_not] at hcond
    cases hr
    obtain ⟨l, hl, h⟩ := ob_eq.1 h
    obtain ⟨m, hm, h⟩ := ob_eq.1 h
    obtain ⟨e1, h⟩ := must_eq.1 h
    obtain ⟨e2, h⟩ := must_eq.1 h
    obtain ⟨e3, h⟩ := must_eq.1 h
    cases h
    rw [Nat.ble_eq] at e1 e2 e3
    rw [zeros_eq]
    exact .mkN rfl fun g1 g2 g3 => d_mkSlice r ho hT hz hb hn hcond.1 (by omega) hl hm h1 h2 e1 e2 e3 g1 g2 g3
  · cases hr
theorem s_slice {t : TypeId} {x : Operand} {lo hi mx : Option Operand} (ho : o.op = .slice t x lo hi mx) (hr : rOp P o.op = some c) (hv : Ops ι o a fr) (r : Rel ι base s w) (h : Runs c fr s id v s') : Says P ι base s w o a id c v s' := by
  have h1 := hv x (by rw [ho]; simp [Op.operands])
  have h2 : ∀ y, lo = some y → VR ι ((rArg y).ev fr) (a.eval y) := by rintro y rfl; exact hv y (by rw [ho]; simp [Op.operands])
  have h3 : ∀ y, hi = some y → VR ι ((rArg y).ev fr) (a.eval y) := by rintro y rfl; exact hv y (by rw [ho]; simp [Op.operands])
  have h4 : ∀ y, mx = some y → VR ι ((rArg y).ev fr) (a.eval y) := by rintro y rfl; exact hv y (by rw [ho]; simp [Op.operands])
  rw [ho] at hr
  unfold rOp at hr
  simp only at hr
  split at hr
  · rename_i hT
    split at hr
    · cases hr
      obtain ⟨b, hb, h⟩ := ob_eq.1 h
      obtain ⟨hh, e1, h⟩ := ob_eq.1 h
      obtain ⟨l, e2, h⟩ := om_eq.1 h
      cases h
      rw [asStr_eq hb] at h1
      rw [lenL_eq] at e1
      rw [takeL_eq, dropL_eq]
      exact .mkQ rfl rfl (q_sliceS ho hT h1 h2 h3 e1 e2)
    · cases hr
  · rename_i e hT
    split at hr
    · cases hr
    rename_i hc
    obtain ⟨n, hn, hr⟩ := Option.bind_eq_some_iff.1 hr
    split at hr
    · cases hr
    rename_i h0
    cases hr
    obtain ⟨e1, e2⟩ := back_eq h
    refine .mkQ rfl e1 (q_sliceV r ho hT hn ?_ h1 h2 h3 h4 e2)
    intro hm
    cases hi with
    | some _ => rfl
    | none => simp [hm] at hc
  · rename_i len e hT
    split at hr
    · cases hr
    rename_i hc
    obtain ⟨n, hn, rfl⟩ := Option.map_eq_some_iff.1 hr
    obtain ⟨ad, ha, h⟩ := ob_eq.1 h
    obtain ⟨e1, e2⟩ := back_eq h
    rw [asAddr_eq ha] at h1
    simp only [Bool.or_eq_true, Bool.and_eq_true, decide_eq_true_eq, not_or] at hc
    have hlt : len < open_ := by unfold open_; omega
    have e3 : sliceExact n (some ad) len len (evO fr (lo.map rArg)) (evO fr (hi.map rArg)) (evO fr (mx.map rArg)) = some v := by
      have e4 : (cnd (Nat.beq len open_) (sliceOpen s n (some ad) len (evO fr (lo.map rArg)) (evO fr (hi.map rArg)) (evO fr (mx.map rArg))) (sliceExact n (some ad) len len (evO fr (lo.map rArg)) (evO fr (hi.map rArg)) (evO fr (mx.map rArg)))) = some v := e2
      rw [cnd_eq, if_neg (by rw [Nat.beq_eq]; omega)] at e4
      exact e4
    refine .mkQ rfl e1 (q_sliceA ho hT hn hlt ?_ h1 h2 h3 h4 e3)
    intro hm
    cases hi with
    | some _ => rfl
    | none => simp [hm] at hc
  · cases hr
theorem s_fieldAddr {t : TypeId} {x : Operand} {i : Nat} (ho : o.op = .fieldAddr t x i) (hr : rOp P o.op = some c) (hv : Ops ι o a fr) (r : Rel ι base s w) (h : Runs c fr s id v s') : Says P ι base s w o a id c v s' := by
  have h1 := hv x (by rw [ho]; simp [Op.operands])
  rw [ho] at hr
  unfold rOp at hr
  simp only at hr
  split at hr
  · rename_i fs hT
    obtain ⟨f, hf, hr⟩ := Option.bind_eq_some_iff.1 hr
    obtain ⟨n, hn, hr⟩ := Option.bind_eq_some_iff.1 hr
    split at hr
    · cases hr
    rename_i h0
    cases hr
    obtain ⟨ad, ha, h⟩ := om_eq.1 h
    cases h
    rw [asAddr_eq ha] at h1
    exact .mkQ rfl rfl (q_faddr ho hT hf hn (by simpa using h0) h1)
  · cases hr
theorem s_field {t : TypeId} {x : Operand} {i : Nat} (ho : o.op = .field t x i) (hr : rOp P o.op = some c) (hv : Ops ι o a fr) (r : Rel ι base s w) (h : Runs c fr s id v s') : Says P ι base s w o a id c v s' := by
  have h1 := hv x (by rw [ho]; simp [Op.operands])
  rw [ho] at hr
  unfold rOp at hr
  simp only at hr
  split at hr
  · rename_i fs hT
    obtain ⟨f, hf, hr⟩ := Option.bind_eq_some_iff.1 hr
    obtain ⟨g, hg, hr⟩ := Option.bind_eq_some_iff.1 hr
    obtain ⟨n, hn, hr⟩ := Option.bind_eq_some_iff.1 hr
    cases hr
    obtain ⟨l, hl, h⟩ := ob_eq.1 h
    obtain ⟨e1, e2⟩ := back_eq h
    rw [asAgg_eq hl] at h1
    exact .mkQ rfl e1 (q_fieldV ho hT hf hg hn h1 e2)
  · cases hr
theorem s_indexAddr {t : TypeId} {x i : Operand} (ho : o.op = .indexAddr t x i) (hr : rOp P o.op = some c) (hv : Ops ι o a fr) (r : Rel ι base s w) (h : Runs c fr s id v s') : Says P ι base s w o a id c v s' := by
  have h1 := hv x (by rw [ho]; simp [Op.operands])
  have h2 := hv i (by rw [ho]; simp [Op.operands])
  rw [ho] at hr
  unfold rOp at hr
  simp only at hr
  split at hr
  · rename_i len e hT
    obtain ⟨n, hn, rfl⟩ := Option.map_eq_some_iff.1 hr
    obtain ⟨ad, ha, h⟩ := ob_eq.1 h
    obtain ⟨k, hk, h⟩ := ob_eq.1 h
    obtain ⟨hlt, h⟩ := must_eq.1 h
    cases h
    rw [asAddr_eq ha] at h1
    rw [Nat.blt_eq] at hlt
    exact .mkQ rfl rfl (q_iaddrA ho hT hn hk hlt h1 h2)
  · rename_i e hT
    obtain ⟨n, hn, rfl⟩ := Option.map_eq_some_iff.1 hr
    obtain ⟨⟨a0, len, cap⟩, ha, h⟩ := ob_eq.1 h
    obtain ⟨ad, had, h⟩ := ob_eq.1 h
    obtain ⟨k, hk, h⟩ := ob_eq.1 h
    obtain ⟨hlt, h⟩ := must_eq.1 h
    cases h
    rw [asSl_eq ha] at h1
    simp only at had hlt h1
    cases had
    rw [Nat.blt_eq] at hlt
    exact .mkQ rfl rfl (q_iaddrV ho hT hn hk hlt h1 h2)
  · cases hr
theorem s_index {t : TypeId} {x i : Operand} (ho : o.op = .index t x i) (hr : rOp P o.op = some c) (hv : Ops ι o a fr) (r : Rel ι base s w) (h : Runs c fr s id v s') : Says P ι base s w o a id c v s' := by
  have h1 := hv x (by rw [ho]; simp [Op.operands])
  have h2 := hv i (by rw [ho]; simp [Op.operands])
  rw [ho] at hr
  unfold rOp at hr
  simp only at hr
  split at hr
  · rename_i len e hT
    obtain ⟨g, hg, hr⟩ := Option.bind_eq_some_iff.1 hr
    obtain ⟨n, hn, hr⟩ := Option.bind_eq_some_iff.1 hr
    cases hr
    obtain ⟨l, hl, h⟩ := ob_eq.1 h
    obtain ⟨k, hk, h⟩ := ob_eq.1 h
    obtain ⟨hlt, h⟩ := must_eq.1 h
    obtain ⟨e1, e2⟩ := back_eq h
    rw [asAgg_eq hl] at h1
    rw [Nat.blt_eq] at hlt
    exact .mkQ rfl e1 (q_idxA ho hT hg hn h1 hk h2 hlt e2)
  · rename_i hT
    cases hr
    obtain ⟨b, hb, h⟩ := ob_eq.1 h
    obtain ⟨k, hk, h⟩ := ob_eq.1 h
    obtain ⟨cc, hcc, h⟩ := om_eq.1 h
    cases h
    rw [asStr_eq hb] at h1
    rw [nthL_eq] at hcc
    exact .mkQ rfl rfl (q_idxS ho hT h1 hk h2 hcc)
  · cases hr
theorem s_lookup {t : TypeId} {m k : Operand} {ok : Bool} (ho : o.op = .lookup t m k ok) (hr : rOp P o.op = some c) (hv : Ops ι o a fr) (r : Rel ι base s w) (h : Runs c fr s id v s') : Says P ι base s w o a id c v s' := by
  have h1 := hv m (by rw [ho]; simp [Op.operands])
  have h2 := hv k (by rw [ho]; simp [Op.operands])
  rw [ho] at hr
  unfold rOp at hr
  simp only at hr
  split at hr
  · rename_i kt e hT
    obtain ⟨z, hz, hr⟩ := Option.bind_eq_some_iff.1 hr
    obtain ⟨ck, hck, hr⟩ := Option.bind_eq_some_iff.1 hr
    cases hr
    obtain ⟨es, hes, h⟩ := ob_eq.1 h
    obtain ⟨q, hq, h⟩ := om_eq.1 h
    cases h
    exact .mkQ rfl rfl (q_lookup r ho hT hck hz h1 h2 hes hq)
  · cases hr
theorem s_mapSet {t : TypeId} {m k x : Operand} (ho : o.op = .mapUpdate t m k x ∨ o.op = .insert t m k x) (hr : rOp P o.op = some c) (hv : Ops ι o a fr) (r : Rel ι base s w) (h : Runs c fr s id v s') : Says P ι base s w o a id c v s' := by
  have h1 := hv m (by rcases ho with ho | ho <;> (rw [ho]; simp [Op.operands]))
  have h2 := hv k (by rcases ho with ho | ho <;> (rw [ho]; simp [Op.operands]))
  have h3 := hv x (by rcases ho with ho | ho <;> (rw [ho]; simp [Op.operands]))
  have hr : (match P.underlying t with
    | some (.map kt _) => (plainKey P kt).bind fun c => some (.mapSet (some [c]) (rArg m) (rArg k) (rArg x))
    | _ => none) = some c := by rcases ho with ho | ho <;> (rw [ho] at hr; exact hr)
  split at hr
  · rename_i kt e hT
    obtain ⟨ck, hck, hr⟩ := Option.bind_eq_some_iff.1 hr
    cases hr
    exact .mkW rfl fun S => d_mapSet (id := id) r ho hT hck h1 h2 h3 h S
  · cases hr
theorem s_range {t : TypeId} {x : Operand} (ho : o.op = .range t x) (hr : rOp P o.op = some c) (hv : Ops ι o a fr) (r : Rel ι base s w) (h : Runs c fr s id v s') : Says P ι base s w o a id c v s' := by
  have h1 := hv x (by rw [ho]; simp [Op.operands])
  rw [ho] at hr
  unfold rOp at hr
  simp only at hr
  split at hr
  · rename_i hT
    cases hr
    obtain ⟨b, hb, h⟩ := om_eq.1 h
    cases h
    rw [asStr_eq hb] at h1
    exact .mkN rfl fun g1 g2 g3 => d_rangeS r ho hT h1 g1 g2 g3
  · cases hr
theorem s_next {x : Operand} {b : Bool} (ho : o.op = .next x b) (hr : rOp P o.op = some c) (hv : Ops ι o a fr) (r : Rel ι base s w) (h : Runs c fr s id v s') : Says P ι base s w o a id c v s' := by
  have h1 := hv x (by rw [ho]; simp [Op.operands])
  rw [ho] at hr
  cases b
  · cases hr
  · cases hr
    exact .mkW rfl fun S => d_nextS (id := id) r ho h1 h S
theorem s_extract {x : Operand} {i : Nat} (ho : o.op = .extract x i) (hr : rOp P o.op = some c) (hv : Ops ι o a fr) (r : Rel ι base s w) (h : Runs c fr s id v s') : Says P ι base s w o a id c v s' := by
  have h1 := hv x (by rw [ho]; simp [Op.operands])
  rw [ho] at hr; cases hr
  obtain ⟨l, hl, h⟩ := ob_eq.1 h
  obtain ⟨e1, e2⟩ := back_eq h
  rw [asTup_eq hl] at h1
  rw [nthL_eq] at e2
  exact .mkQ rfl e1 (q_extract ho e2 h1)
end
end Go.Ev
