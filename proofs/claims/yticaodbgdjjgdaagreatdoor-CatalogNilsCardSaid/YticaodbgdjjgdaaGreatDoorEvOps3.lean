/-
  Calls of the language's own functions; and all operations together.
-/
import Derived.Test.YticaodbgdjjgdaaGreatDoorEvOps2
set_option linter.unusedVariables false
set_option linter.unusedSimpArgs false
namespace Go.Ev
open Go (Sem)
section
variable {P : Program} {ι : Inj} {w : World} {base : Nat} {s : St} {o : Oper} {a : Act} {fr : Fr} {id : Nat} {v : Value} {s' : St} {c : Cop}


theorem at0 {α : Type} {xs : Array α} {x : α} {l : List α} (h : xs.toList = x :: l) : xs[0]? = some x := by rw [← Array.getElem?_toList, h]; rfl

theorem s_builtin {cl : Call} {b : Builtin} (ho : o.op = .call cl) (hb : cl.callee = .builtin b) (hr : rOp P o.op = some c) (hv : ∀ x ∈ cl.args.toList, VR ι ((rArg x).ev fr) (a.eval x)) (r : Rel ι base s w) (h : Runs c fr s id v s') : Says P ι base s w o a id c v s' := by
  rw [ho] at hr
  unfold rOp at hr
  simp only [hb] at hr
  split at hr
  · -- len
    rename_i x t l ha ht
    have h1 := hv x (by rw [ha]; simp)
    split at hr
    · rename_i hT
      cases hr
      obtain ⟨q, hq, h⟩ := om_eq.1 h
      cases h
      rw [asStr_eq hq] at h1
      exact .mkQ rfl rfl (q_lenS ho hb (arr1 ha) (at0 ht) hT h1)
    · rename_i e hT
      cases hr
      obtain ⟨q, hq, h⟩ := om_eq.1 h
      cases h
      rw [asSl_eq hq] at h1
      exact .mkQ rfl rfl (q_lenV ho hb (arr1 ha) (at0 ht) hT h1)
    · rename_i k e hT
      cases hr
      obtain ⟨q, hq, h⟩ := om_eq.1 h
      cases h
      rw [lenL_eq]
      exact .mkQ rfl rfl (q_lenM r ho hb (arr1 ha) (at0 ht) hT h1 hq)
    · rename_i n e hT
      cases hr
      cases h
      exact .mkQ rfl rfl (q_lenArr (.inl rfl) ho hb (arr1 ha) (at0 ht) (.inl hT))
    · rename_i A hT
      split at hr
      · rename_i n e hA
        cases hr
        cases h
        exact .mkQ rfl rfl (q_lenArr (.inl rfl) ho hb (arr1 ha) (at0 ht) (.inr ⟨A, hT, hA⟩))
      · cases hr
    · cases hr
  · -- cap
    rename_i x t l ha ht
    have h1 := hv x (by rw [ha]; simp)
    split at hr
    · rename_i e hT
      cases hr
      obtain ⟨q, hq, h⟩ := ob_eq.1 h
      obtain ⟨hne, h⟩ := must_eq.1 h
      cases h
      rw [asSl_eq hq] at h1
      refine .mkQ rfl rfl (q_capV ho hb (arr1 ha) (at0 ht) hT ?_ h1)
      intro he
      rw [he] at hne
      cases hne
    · rename_i n e hT
      cases hr
      cases h
      exact .mkQ rfl rfl (q_lenArr (.inr rfl) ho hb (arr1 ha) (at0 ht) (.inl hT))
    · cases hr
  · -- append
    rename_i x y t u ha ht
    have h1 := hv x (by rw [ha]; simp)
    have h2 := hv y (by rw [ha]; simp)
    split at hr
    · rename_i e kn hT hU
      obtain ⟨n, hn, hr⟩ := Option.bind_eq_some_iff.1 hr
      obtain ⟨bb, hbb, hr⟩ := Option.bind_eq_some_iff.1 hr
      obtain ⟨z, hz, hr⟩ := Option.bind_eq_some_iff.1 hr
      split at hr
      · cases hr
      rename_i hcond
      simp only [Bool.or_eq_true, beq_iff_eq, bne_iff_ne, ne_eq, not_or, Decidable.not_not] at hcond
      obtain ⟨⟨⟨c1, c2⟩, c3⟩, c4⟩ := hcond
      cases hr
      exact .mkW rfl fun S => d_appendZ (id := id) r ho hb ht ha hT hU hn hbb hz c3 (by omega) (by simpa using c4) (by omega) h1 h2 h S
    · rename_i e e' hT hU
      obtain ⟨n, hn, hr⟩ := Option.bind_eq_some_iff.1 hr
      obtain ⟨bb, hbb, hr⟩ := Option.bind_eq_some_iff.1 hr
      obtain ⟨z, hz, hr⟩ := Option.bind_eq_some_iff.1 hr
      split at hr
      · cases hr
      rename_i hcond
      simp only [Bool.or_eq_true, beq_iff_eq, bne_iff_ne, ne_eq, not_or, Decidable.not_not] at hcond
      obtain ⟨⟨⟨c1, c2⟩, c3⟩, c4⟩ := hcond
      cases hr
      exact .mkW rfl fun S => d_append r ho hb ht ha hT (.inl ⟨_, hU⟩) hn hbb hz c3 (by omega) (by simpa using c4) (by omega) h1 h2 h S
    · rename_i e hT hU
      obtain ⟨n, hn, hr⟩ := Option.bind_eq_some_iff.1 hr
      obtain ⟨bb, hbb, hr⟩ := Option.bind_eq_some_iff.1 hr
      obtain ⟨z, hz, hr⟩ := Option.bind_eq_some_iff.1 hr
      split at hr
      · cases hr
      rename_i hcond
      simp only [Bool.or_eq_true, beq_iff_eq, bne_iff_ne, ne_eq, not_or, Decidable.not_not] at hcond
      obtain ⟨⟨c1, c2⟩, c3⟩ := hcond
      cases hr
      exact .mkW rfl fun S => d_append r ho hb ht ha hT (.inr hU) hn hbb hz c3 (by omega) (by omega) (by omega) h1 h2 h S
    · cases hr
  · -- copy
    rename_i x y t l ha ht
    have h1 := hv x (by rw [ha]; simp)
    have h2 := hv y (by rw [ha]; simp)
    split at hr
    · rename_i e hT
      obtain ⟨n, hn, rfl⟩ := Option.map_eq_some_iff.1 hr
      exact .mkW rfl fun S => d_copy (id := id) r ho hb ht ha hT hn h1 h2 h S
    · cases hr
  · -- delete
    rename_i m k t l ha ht
    have h1 := hv m (by rw [ha]; simp)
    have h2 := hv k (by rw [ha]; simp)
    split at hr
    · rename_i kt e hT
      obtain ⟨ck, hck, hr⟩ := Option.bind_eq_some_iff.1 hr
      cases hr
      exact .mkW rfl fun S => d_delete (id := id) r ho hb (at0 ht) ha hT hck h1 h2 h S
    · cases hr
  · -- clear
    rename_i x t l ha ht
    have h1 := hv x (by rw [ha]; simp)
    split at hr
    · rename_i kt e hT
      cases hr
      exact .mkW rfl fun S => d_clearM (id := id) r ho hb (at0 ht) ha hT h1 h S
    · cases hr
  · -- min
    rename_i t l ht
    split at hr
    · rename_i kt hT
      cases hr
      have hl := lr_ops hv
      have h : (List.casesOn (evL fr (cl.args.toList.map rArg)) none (fun x r => back s (minmaxL false r x)) : R) = some (v, s') := h
      cases e : evL fr (cl.args.toList.map rArg) with
      | nil => rw [e] at h; cases h
      | cons x xs =>
        rw [e] at h
        obtain ⟨e1, e2⟩ := back_eq h
        exact .mkQ rfl e1 (q_minmax (mx := false) ho hb hl e e2)
    · cases hr
  · -- unsafe.SliceData
    rename_i l x ha
    have h1 := hv x (by rw [ha]; simp)
    cases hr
    obtain ⟨p, hp, h2⟩ := ob_eq.1 (show ob (asSl ((rArg x).ev fr)) (fun p => Option.rec (some (.pointer none, s)) (fun a => must (cnd (Nat.beq p.2.2 open_) (!Nat.beq p.2.1 0) (!Nat.beq p.2.2 0)) (some (.pointer (some a), s))) p.1) = some (v, s') from h)
    obtain ⟨pa, pn, pk⟩ := p
    cases pa with
    | none => cases h2; exact .mkQ rfl rfl (q_sliceData ho hb (arr1 ha) h1 hp fun h => by cases h)
    | some a =>
      obtain ⟨h3, h4⟩ := must_eq.1 (show must (cnd (Nat.beq pk open_) (!Nat.beq pn 0) (!Nat.beq pk 0)) (some (.pointer (some a), s)) = some (v, s') from h2)
      cases h4
      refine .mkQ rfl rfl (q_sliceData ho hb (arr1 ha) h1 hp fun _ => ?_)
      rw [cnd_eq] at h3
      split at h3
      · rename_i hh; rw [Nat.beq_eq] at hh; rw [if_pos hh]; intro e; rw [e] at h3; cases h3
      · rename_i hh; rw [Nat.beq_eq] at hh; rw [if_neg hh]; intro e; rw [e] at h3; cases h3
  · -- unsafe.String
    rename_i x y t u ha ht
    have h1 := hv x (by rw [ha]; simp)
    have h2 := hv y (by rw [ha]; simp)
    split at hr
    · rename_i T hT
      split at hr
      · rename_i hc
        cases hr
        exact .mkW rfl fun S => d_unsafeStr (id := id) r ho hb ha ht hT (by simpa using hc) h1 h2 h S
      · cases hr
    · cases hr
  · -- max
    rename_i t l ht
    split at hr
    · rename_i kt hT
      cases hr
      have hl := lr_ops hv
      have h : (List.casesOn (evL fr (cl.args.toList.map rArg)) none (fun x r => back s (minmaxL true r x)) : R) = some (v, s') := h
      cases e : evL fr (cl.args.toList.map rArg) with
      | nil => rw [e] at h; cases h
      | cons x xs =>
        rw [e] at h
        obtain ⟨e1, e2⟩ := back_eq h
        exact .mkQ rfl e1 (q_minmax (mx := true) ho hb hl e e2)
    · cases hr
  · cases hr

theorem op_ok (hr : rOp P o.op = some c) (hv : Ops ι o a fr) (r : Rel ι base s w) (h : Runs c fr s id v s') : Says P ι base s w o a id c v s' := by
  cases ho : o.op with
  | move x => exact s_move (.inl ho) hr hv r h
  | assign x => exact s_move (.inr ho) hr hv r h
  | pick x y z => exact s_pick ho hr hv r h
  | alloc t => exact s_alloc ho hr hv r h
  | box t x => exact s_box ho hr hv r h
  | build t ps => exact s_build ho hr hv r h
  | buildSlice t n ps => exact s_buildSlice ho hr hv r h
  | load t x => exact s_load ho hr hv r h
  | store t x y => exact s_store ho hr hv r h
  | nilCheck x => exact s_nilCheck ho hr hv r h
  | binOp op t x y u => exact s_binOp ho hr hv r h
  | unOp op t x => exact s_unOp ho hr hv r h
  | convert s d x => exact s_convert ho hr hv r h
  | makeInterface t x => exact s_makeInterface ho hr hv r h
  | makeFunc f xs ys => exact s_makeFunc ho hr hv r h
  | makeMap t x => exact s_makeMap ho hr hv r h
  | makeSlice t x y => exact s_makeSlice ho hr hv r h
  | slice t x lo hi mx => exact s_slice ho hr hv r h
  | fieldAddr t x i => exact s_fieldAddr ho hr hv r h
  | field t x i => exact s_field ho hr hv r h
  | indexAddr t x i => exact s_indexAddr ho hr hv r h
  | index t x i => exact s_index ho hr hv r h
  | lookup t m k ok => exact s_lookup ho hr hv r h
  | mapUpdate t m k x => exact s_mapSet (.inl ho) hr hv r h
  | insert t m k x => exact s_mapSet (.inr ho) hr hv r h
  | range t x => exact s_range ho hr hv r h
  | next x b => exact s_next ho hr hv r h
  | extract x i => exact s_extract ho hr hv r h
  | call cl =>
    cases hc : cl.callee with
    | builtin b => exact s_builtin ho hc hr (fun x hx => hv x (by rw [ho]; simp only [Op.operands, Call.operands, hc]; simpa using hx)) r h
    | value f =>
      rw [ho] at hr
      unfold rOp at hr
      simp only [hc] at hr
      split at hr
      · cases hr; cases h
      · cases hr; cases h
      · cases hr
      · rename_i hh; cases hh
    | invoke x m =>
      rw [ho] at hr
      unfold rOp at hr
      simp only [hc] at hr
      cases hr
  | _ => rw [ho] at hr; cases hr
end
end Go.Ev
