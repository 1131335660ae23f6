/-
  delete, clear; texts out of bytes; ranges over a text.
-/
import Derived.Test.YticaodbgdjjgdaaGreatDoorEvMap2
import Derived.Laws.BytesString
set_option linter.unusedVariables false
set_option linter.unusedSimpArgs false
namespace Go.Ev
open Go (Sem)
open Go.MapKept (run_setObj_map run_findKey heap_set bytes_beq)
section
variable {P : Program} {ι : Inj} {w : World} {base : Nat} {s : St} {o : Oper} {ρ : Operand → Value}

theorem d_delete (r : Rel ι base s w) {cl : Call} (ho : o.op = .call cl) (hcl : cl.callee = .builtin .delete) {T kt e : TypeId} {m k : Operand} (ht : cl.argTypes[0]? = some T) (ha : cl.args.toList = [m, k]) (hT : P.underlying T = some (.map kt e)) {c : CK} (hc : plainKey P kt = some c) {fr : Fr}
    (hM : VR ι ((rArg m).ev fr) (ρ m)) (hK : VR ι ((rArg k).ev fr) (ρ k)) {v : Value} {s' : St} {id : Nat} (h : cDelete (some [c]) (rArg m) (rArg k) fr s id = some (v, s')) (S : Nat → Prop) :
    Does P S ι base s w (execOp ρ o) v s' := by
  obtain ⟨d, hd, hcd⟩ := plainKey_eq hc
  obtain ⟨a0, h1, h8⟩ := ob_eq.1 h
  have hrun : ∀ w' m', (Builtin.delete_ cl.argTypes o.type #[ρ m, ρ k]).run P w = .ok m' w' → (execOp ρ o).run P w = .ok (.value m') w' := by
    intro w' m' g
    refine run_call_len ho hcl (m := Builtin.delete_ cl.argTypes o.type (cl.args.map ρ)) (fun _ => rfl) ?_
    rw [arr2 ha]
    simpa using g
  rw [asMap_eq h1] at hM
  rcases hM.mapE with ⟨rfl, hm⟩ | ⟨b, B, rfl, hB, hm⟩
  · cases h8
    refine Does.of (hrun w undef ?_) (Ext.refl r) .undef
    simp [Builtin.delete_, ht, hm, Go.run_underlying hT, Result.andThen, run_checkPlain hcd hd]
    rfl
  · obtain ⟨⟨es, c0⟩, h3, h10⟩ := ob_eq.1 h8
    obtain ⟨es2, h5, h7⟩ := om_eq.1 h10
    cases h7
    simp only at h3 h5
    obtain ⟨es', clk', g1, g2⟩ := r.ents (asEnts_eq h3) hB
    -- what is found
    have hfind : ∃ q, keyFind (some [c]) ((rArg k).ev fr) es = some q := by
      clear h h8 h10 g2 h3
      generalize (rArg k).ev fr = K at h5
      induction es generalizing es2 with
      | nil => exact ⟨none, rfl⟩
      | cons f l ih =>
        rw [keyDel_cons] at h5
        obtain ⟨b2, hb, h5'⟩ := ob_eq.1 h5
        rw [keyFind_cons, hb]
        cases b2 with
        | true => exact ⟨some f, rfl⟩
        | false =>
          obtain ⟨l2, h6, _⟩ := om_eq.1 h5'
          exact ih _ h6
    obtain ⟨q, hq⟩ := hfind
    obtain ⟨hpw, ⟨p, hp, hER⟩, hnd⟩ := g2
    rcases find_ok hcd hK ⟨hpw, ⟨p, hp, hER⟩, hnd⟩ hq with ⟨rfl, f1, f2⟩ | ⟨e0, p1, p2, a', e', b', rfl, f1, f2, f3, f4, f5, f6, f7, f8, f9, f10⟩
    · rw [(keyNone f2).2] at h5
      cases h5
      refine Does.of (hrun _ undef ?_) (ent_write (es2' := es') (clk2 := clk') (c2 := c0) r (asEnts_eq h3) hB g1 ⟨hpw, ⟨p, hp, hER⟩, hnd⟩ S) .undef
      simp [Builtin.delete_, ht, hm, Go.run_underlying hT, Result.andThen, run_getObj_map g1, run_checkPlain hcd hd, run_findKey hd f1, setObj_map g1]
      rfl
    · obtain ⟨k1, a1, b1, rfl, _, k2⟩ := keyFind_some hq
      rw [k2] at h5
      cases h5
      have hmod : es'.eraseIdxIfInBounds a'.length = ⟨a' ++ b'⟩ := by
        have : es' = ⟨a' ++ e' :: b'⟩ := by rw [← f2]
        subst this
        apply Array.ext'
        rw [Array.toList_eraseIdxIfInBounds, List.eraseIdx_append_of_length_le (Nat.le_refl _)]
        simp
      refine Does.of (hrun _ undef ?_) (ent_write (es2' := ⟨a' ++ b'⟩) (clk2 := clk') (c2 := c0) r (asEnts_eq h3) hB g1 ?_ S) .undef
      · simp [Builtin.delete_, ht, hm, Go.run_underlying hT, Result.andThen, run_getObj_map g1, run_checkPlain hcd hd, run_findKey hd f10, hmod, setObj_map g1]
        rfl
      · refine ⟨hpw.sublist ?_, ⟨p1 ++ p2, ?_, f3.append f7⟩, ?_⟩
        · exact List.Sublist.append_left (List.sublist_cons_self _ _) _
        · have e1 : (e0 :: (p1 ++ p2)).Perm (e0 :: (a1 ++ b1)) := (List.perm_middle.symm.trans f1).trans List.perm_middle
          exact (List.perm_cons _).1 e1
        · rw [f2] at hnd
          refine List.Nodup.sublist ?_ hnd
          exact (List.Sublist.append_left (List.sublist_cons_self _ _) _).map _

theorem d_clearM (r : Rel ι base s w) {cl : Call} (ho : o.op = .call cl) (hcl : cl.callee = .builtin .clear) {T kt e : TypeId} {m : Operand} (ht : cl.argTypes[0]? = some T) (ha : cl.args.toList = [m]) (hT : P.underlying T = some (.map kt e)) {fr : Fr}
    (hM : VR ι ((rArg m).ev fr) (ρ m)) {v : Value} {s' : St} {id : Nat} (h : cClearM (rArg m) fr s id = some (v, s')) (S : Nat → Prop) :
    Does P S ι base s w (execOp ρ o) v s' := by
  obtain ⟨a0, h1, h8⟩ := ob_eq.1 h
  have hrun : ∀ w' m', (Builtin.clear_ cl.argTypes o.type #[ρ m]).run P w = .ok m' w' → (execOp ρ o).run P w = .ok (.value m') w' := by
    intro w' m' g
    refine run_call_len ho hcl (m := Builtin.clear_ cl.argTypes o.type (cl.args.map ρ)) (fun _ => rfl) ?_
    rw [arr1 ha]
    simpa using g
  rw [asMap_eq h1] at hM
  rcases hM.mapE with ⟨rfl, hm⟩ | ⟨b, B, rfl, hB, hm⟩
  · cases h8
    refine Does.of (hrun w undef ?_) (Ext.refl r) .undef
    simp [Builtin.clear_, ht, hm, Go.run_underlying hT, Result.andThen]
    rfl
  · obtain ⟨⟨es, c0⟩, h3, h7⟩ := om_eq.1 h8
    cases h7
    obtain ⟨es', clk', g1, g2⟩ := r.ents (asEnts_eq h3) hB
    refine Does.of (hrun _ undef ?_) (ent_write (es2' := #[]) (clk2 := clk') (c2 := c0) (es2 := []) r (asEnts_eq h3) hB g1 ⟨.nil, ⟨[], .nil, .nil⟩, .nil⟩ S) .undef
    simp [Builtin.clear_, ht, hm, Go.run_underlying hT, Result.andThen, run_getObj_map g1, setObj_map g1]
    rfl

theorem toByte_eq {l : List Value} : ∀ {b : List UInt8}, optL toByte l = some b → ∃ ns : List Int, l = ns.map (fun n => Value.int .u8 n) ∧ b = ns.map (fun n => UInt8.ofNat n.toNat) := by
  induction l with
  | nil => intro b h; cases h; exact ⟨[], rfl, rfl⟩
  | cons x l ih =>
    intro b h
    rw [optL_cons] at h
    obtain ⟨c, hc, h⟩ := ob_eq.1 h
    obtain ⟨b2, hb2, h⟩ := om_eq.1 h
    obtain ⟨ns, rfl, rfl⟩ := ih hb2
    obtain ⟨p, hp, hc⟩ := ob_eq.1 hc
    obtain ⟨hk, hc⟩ := must_eq.1 hc
    rw [kEq_eq] at hk
    have hk : p.1 = .u8 := by simpa using hk
    cases hc
    subst h
    refine ⟨p.2 :: ns, ?_, rfl⟩
    rw [asInt_eq hp, hk]; rfl

theorem foldl_push (ns : List Int) : ∀ b : ByteArray, (ns.foldl (fun r n => r.push (UInt8.ofNat n.toNat)) b) = ⟨⟨b.data.toList ++ ns.map (fun n => UInt8.ofNat n.toNat)⟩⟩ := by
  induction ns with
  | nil => intro b; simp
  | cons n ns ih =>
    intro b
    rw [List.foldl_cons, ih]
    have : (b.push (UInt8.ofNat n.toNat)).data.toList = b.data.toList ++ [UInt8.ofNat n.toNat] := by
      show (b.data.push _).toList = _
      simp
    rw [this]; simp

theorem q_convBS (r : Rel ι base s w) {S D E : TypeId} {x : Operand} (ho : o.op = .convert S D x) (hS : P.underlying S = some (.slice E)) (hD : P.underlying D = some .string) (hE : P.underlying E = some (.int .u8)) {X : Value} (hX : VR ι X (ρ x))
    {p : Option Addr × Nat × Nat} (e : asSl X = some p) {l : List Value} (hl : s.elems 1 X p.2.1 = some l) {b : List UInt8} (hb : optL toByte l = some b) : Ok P ι w (execOp ρ o) (strOf b) := by
  refine ⟨strOf b, ?_, .string _⟩
  simp only [execOp, ho]
  refine run_v ?_
  have hn : lenOf X = some p.2.1 := by rw [asSl_eq e]; rfl
  generalize p.2.1 = n at hn hl
  obtain ⟨f1, news, f2, f3, f4, f5⟩ := firstCells_ok (P := P) r hX hn (Nat.le_refl _) hl
  obtain ⟨ns, rfl, rfl⟩ := toByte_eq hb
  have hnews : news = ns.map (fun n => Value.int .u8 n) := by
    apply List.ext_getElem?
    intro i
    cases e : (ns.map (fun n => Value.int .u8 n))[i]? with
    | none =>
      have := List.getElem?_eq_none_iff.1 e
      exact List.getElem?_eq_none_iff.2 (by rw [← f4.length]; exact this)
    | some y =>
      obtain ⟨z, hz, hv⟩ := f4.some e
      rw [hz]
      rw [List.getElem?_map] at e
      cases e2 : ns[i]? with
      | none => rw [e2] at e; cases e
      | some q => rw [e2] at e; cases e; rw [hv.intE]
  obtain ⟨pa, pn, pc⟩ := p
  have hsl : ∃ a c, ρ x = .slice a pn c := by
    rw [asSl_eq e] at hX
    generalize ρ x = Z at hX
    cases hX <;> exact ⟨_, _, rfl⟩
  obtain ⟨a, c, hx⟩ := hsl
  have f1' := f1 w
  rw [hx] at f1'
  have hnp : n = pn := by
    have : (Result.ok pn w : Result Nat) = .ok n w := f1'
    cases this; rfl
  subst hnp
  have f2' := f2 w.drawn
  rw [hx] at f2' ⊢
  have hconv : (convert S D (.slice a n c)).run P w = (Conv.bytesToString (.slice a n c)).run P w := by
    cases a <;> simp [convert, run_underlying hS, run_underlying hD, run_underlying hE, Result.andThen]
  rw [hconv]
  cases a with
  | none =>
    have : news = [] := by
      have h0 : (Result.ok #[] w : Result (Array Value)) = .ok news.toArray w := f2'
      have h0 : (#[] : Array Value) = news.toArray := by cases h0; rfl
      have := congrArg Array.toList h0
      simpa using this.symm
    rw [this] at hnews
    have : ns = [] := by
      cases ns with
      | nil => rfl
      | cons _ _ => cases hnews
    subst this
    simp [Conv.bytesToString, strOf]
    rfl
  | some ad =>
    have h0 : (loadCells ad (n * 1)).run P w = .ok news.toArray w := f2'
    rw [Nat.mul_one] at h0
    rw [run_bytesToString w ad n c ns (by rw [h0, hnews]), foldl_push]
    rfl
end
end Go.Ev
namespace Go.Ev
open Go (Sem)
section
variable {P : Program} {ι : Inj} {w : World} {base : Nat} {s : St} {o : Oper} {ρ : Operand → Value}
theorem d_rangeS (r : Rel ι base s w) {T : TypeId} {x : Operand} (ho : o.op = .range T x) (hT : P.underlying T = some .string) {b : List UInt8} (hx : VR ι (strOf b) (ρ x)) {id : Nat} (h1 : id < s.next) (h2 : s.get id = none) (h3 : ι id = none) :
    Does P (· = id) ι base s w (execOp ρ o) (ptr id 0) (s.set id (.iter ⟨⟨b⟩⟩ 0)) := by
  refine Does.of (κ := ι.put id ⟨w.heap.size, 0, 0, 0⟩) (v' := .pointer (some ⟨w.heap.size, 0, none⟩)) (w' := { w with heap := w.heap.push (.stringIter ⟨⟨b⟩⟩ 0) }) ?_ ?_ ?_
  rotate_left 1
  · exact Ext.new r id _ (.stringIter ⟨⟨b⟩⟩ 0) 0 0 h1 h2 h3 rfl rfl rfl rfl rfl ⟨rfl, heap_push_get w _⟩
  · exact .ptr (a' := ⟨w.heap.size, 0, none⟩) ⟨_, Inj.put_same _ _ _, rfl, rfl⟩
  · simp only [execOp, ho]
    refine run_v ?_
    rw [hx.strE]
    simp [Instr.range, strOf, newObj, Sem.run, run_underlying hT, Result.andThen]

theorem obIter_eq {x : Ob} {m : ByteArray × Nat} (h : obIter x = some m) : x = .iter m.1 m.2 := by
  cases x <;> simp only [obIter] at h <;> cases h <;> rfl

theorem d_nextS (r : Rel ι base s w) {x : Operand} (ho : o.op = .next x true) {fr : Fr} (hx : VR ι ((rArg x).ev fr) (ρ x)) {v : Value} {s' : St} {id : Nat} (h : cNextS (rArg x) fr s id = some (v, s')) (S : Nat → Prop) : Does P S ι base s w (execOp ρ o) v s' := by
  obtain ⟨a, h1, h2⟩ := ob_eq.1 h
  obtain ⟨h3, h4⟩ := must_eq.1 h2
  obtain ⟨ob_, h5, h6⟩ := ob_eq.1 h4
  obtain ⟨m, h7, h8⟩ := ob_eq.1 h6
  clear h h2 h4 h6
  rw [Nat.beq_eq] at h3
  rw [asAddr_eq h1] at hx
  obtain ⟨a', hx', B, hB, hs, rfl⟩ := hx.ptrE
  have hob := obIter_eq h7
  subst hob
  obtain ⟨B', hB', hsh, hw⟩ := r.ob a.block _ h5 rfl
  rw [hB] at hB'; cases hB'
  rw [hsh, h3] at hx'
  rw [cnd_eq] at h8
  have hlen : lenL m.1.data.toList = m.1.size := by rw [lenL_eq]; rfl
  have hget : ∀ (w0 : World), w0 = w → (getObj B.b).run P w0 = .ok (.stringIter m.1 m.2) w0 := by
    rintro _ rfl
    simp [getObj, Sem.run, hw]
  split at h8
  · rename_i hlt
    cases h8
    have hlt' : m.2 < m.1.size := by rw [hlen, Nat.blt_eq] at hlt; exact hlt
    refine Does.of (v' := .tuple #[.bool true, goInt m.2, .int .i32 (Utf8.decode m.1 m.2).1]) (w' := { w with heap := w.heap.setIfInBounds B.b (.stringIter m.1 (m.2 + (Utf8.decode m.1 m.2).2)) }) ?_ ?_ ?_ (κ := ι)
    · simp only [execOp, ho]
      refine run_v ?_
      rw [hx']
      simp only [Instr.next, Nat.zero_add, Sem.run_bind, hget w rfl, Result.andThen, hlt', if_true]
      simp [setObj, Sem.run, hw, Result.andThen]
    · obtain ⟨g1, g2⟩ := Go.MapKept.heap_set (o' := .stringIter m.1 (m.2 + (Utf8.decode m.1 m.2).2)) hw
      exact Ext.write r a.block _ _ B h5 rfl hB (by simp) (fun b hb => g2 b hb) rfl rfl rfl ⟨hsh, g1⟩
    · exact .tupI (.cons (.bool _) (.cons (.int _ _) (.cons (.int _ _) .nil)))
  · rename_i hlt
    cases h8
    have hlt' : ¬ m.2 < m.1.size := by rw [hlen, Nat.blt_eq] at hlt; exact hlt
    refine Does.of (v' := .tuple #[.bool false]) (w' := w) ?_ (Ext.refl r) (.tupI (.cons (.bool _) .nil))
    simp only [execOp, ho]
    refine run_v ?_
    rw [hx']
    simp [Instr.next, Sem.run_bind, hget w rfl, Result.andThen, hlt']
end
end Go.Ev
