/-
  Operations on maps.
-/
import Derived.Test.YticaodbgdjjgdaaGreatDoorEvMap
set_option linter.unusedVariables false
set_option linter.unusedSimpArgs false
namespace Go.Ev
open Go (Sem)
open Go.MapKept (run_setObj_map run_findKey heap_set bytes_beq)
section
variable {P : Program} {ι : Inj} {w : World} {base : Nat} {s : St} {o : Oper} {ρ : Operand → Value}

theorem plainKey_eq {t : TypeId} {c : CK} (h : plainKey P t = some c) : ∃ d, P.underlying t = some d ∧ ckType c d := by
  unfold plainKey at h
  split at h <;> cases h <;> (rename_i h0; exact ⟨_, h0, trivial⟩)
theorem run_checkPlain {c : CK} {d : TypeDesc} (hd : ckType c d) {kt : TypeId} (ht : P.underlying kt = some d) (e : Bool) (k : Value) : (Instr.checkKey e 10000 kt k).run P w = .ok () w := by
  rw [show (10000 : Nat) = 9999 + 1 from rfl]
  unfold Instr.checkKey
  simp only [Sem.run_bind, Go.run_underlying ht, Result.andThen]
  cases c <;> cases d <;> first | exact hd.elim | rfl
theorem run_getObj_map {r : Nat} {es : Array MapEntry} {clk : Nat} (h : w.heap[r]? = some (.map es clk)) : (getObj r).run P w = .ok (.map es clk) w := by
  simp [getObj, Sem.run, h]

theorem Rel.ents (r : Rel ι base s w) {a : Nat} {es : List (Value × Value)} {c : Nat} (h : s.get a = some (.map es c)) {B : Blk} (hB : ι a = some B) : ∃ es' clk', w.heap[B.b]? = some (.map es' clk') ∧ entsR ι es clk' es' := by
  obtain ⟨B', h1, h2⟩ := r.ob a _ h rfl
  rw [hB] at h1; cases h1
  exact h2

theorem d_mkMap (r : Rel ι base s w) {T : TypeId} {h : Option Operand} (ho : o.op = .makeMap T h) (hT : h.isSome = true → ∃ k e, P.underlying T = some (.map k e)) (hh : ∀ x, h = some x → ∃ n : IntKind × Int, ρ x = .int n.1 n.2) {id : Nat} (h1 : id < s.next) (h2 : s.get id = none) (h3 : ι id = none) :
    Does P (· = id) ι base s w (execOp ρ o) (.map (some id)) (s.set id (.map [] 0)) := by
  refine Does.of (κ := ι.put id ⟨w.heap.size, 0, 0, 0⟩) (v' := .map (some w.heap.size)) (w' := { w with heap := w.heap.push (.map #[] 0) }) ?_ ?_ ?_
  rotate_left 1
  · refine Ext.new r id _ (.map #[] 0) 0 0 h1 h2 h3 rfl rfl rfl rfl rfl ?_
    exact ⟨#[], 0, heap_push_get w _, .nil, ⟨[], .nil, .nil⟩, .nil⟩
  · exact .map (Inj.put_same _ _ _)
  · simp only [execOp, ho]
    refine run_v ?_
    cases h with
    | none => simp [Instr.makeMap, newObj, Sem.run, Result.andThen]
    | some x =>
      obtain ⟨n, hn⟩ := hh x rfl
      obtain ⟨k, e, hT⟩ := hT rfl
      simp [Instr.makeMap, newObj, Sem.run, Go.run_underlying hT, hn, Go.asInt, asIntOf, Result.andThen]

theorem found_none (z : Value) : found z none = z := rfl
theorem found_some (z : Value) (e : Value × Value) : found z (some e) = e.2 := rfl

theorem q_lookup (r : Rel ι base s w) {T kt e : TypeId} {m k : Operand} {ok : Bool} (ho : o.op = .lookup T m k ok) (hT : P.underlying T = some (.map kt e)) {c : CK} (hc : plainKey P kt = some c) {z : Value} (hz : zeroOf P e = some z)
    {M K : Value} (hM : VR ι M (ρ m)) (hK : VR ι K (ρ k)) {es : List (Value × Value)} (he : mapEnts s M = some es) {q : Option (Value × Value)} (hq : keyFind (some [c]) K es = some q) :
    Ok P ι w (execOp ρ o) (cnd ok (.tuple ⟨[found z q, .bool q.isSome]⟩) (found z q)) := by
  obtain ⟨d, hd, hcd⟩ := plainKey_eq hc
  obtain ⟨hz1, hz2⟩ := run_zeroValue (w := w) hz
  obtain ⟨a, ha, he⟩ := ob_eq.1 he
  rw [asMap_eq ha] at hM
  have key : ∃ es' : Array MapEntry, ((ρ m = .map none ∧ es' = #[]) ∨ ∃ b c, ρ m = .map (some b) ∧ w.heap[b]? = some (.map es' c)) ∧ ∃ clk, entsR ι es clk es' := by
    rcases hM.mapE with ⟨rfl, hm⟩ | ⟨b, B, rfl, hB, hm⟩
    · cases he
      exact ⟨#[], .inl ⟨hm, rfl⟩, 0, .nil, ⟨[], .nil, .nil⟩, .nil⟩
    · obtain ⟨⟨es0, c0⟩, h1, h2⟩ := om_eq.1 he
      simp only at h2
      subst h2
      obtain ⟨es', clk', g1, g2⟩ := r.ents (asEnts_eq h1) hB
      exact ⟨es', .inr ⟨_, _, hm, g1⟩, clk', g2⟩
  obtain ⟨es', k1, clk, k2⟩ := key
  have fin : ∀ (v v' : Value) (b : Bool) (f : Option (Nat × Value)), VR ι v v' → Instr.findNow d (ρ k) es'.toList 0 = some f → ((f = none ∧ v' = z ∧ b = false) ∨ ∃ i, f = some (i, v') ∧ b = true) →
      Ok P ι w (execOp ρ o) (cnd ok (.tuple ⟨[v, .bool b]⟩) v) := by
    intro v v' b f hv hf hb
    refine ⟨if ok then .tuple #[v', .bool b] else v', ?_, ?_⟩
    · simp only [execOp, ho]
      refine run_v ?_
      unfold Instr.lookup
      rcases k1 with ⟨hm, rfl⟩ | ⟨b1, c1, hm, hb1⟩
      · rcases hb with ⟨rfl, rfl, rfl⟩ | ⟨i, rfl, rfl⟩ <;> cases ok <;> simp [Go.run_underlying hT, Result.andThen, hm, run_checkPlain hcd hd, run_findKey hd hf, hz1]
      · rcases hb with ⟨rfl, rfl, rfl⟩ | ⟨i, rfl, rfl⟩ <;> cases ok <;> simp [Go.run_underlying hT, Result.andThen, hm, run_getObj_map hb1, run_checkPlain hcd hd, run_findKey hd hf, hz1]
    · cases ok
      · exact hv
      · exact .tupI (.cons hv (.cons (.bool _) .nil))
  rcases find_ok hcd hK k2 hq with ⟨rfl, h1, _⟩ | ⟨e0, p1, p2, a', e', b', rfl, _, _, _, _, h2, _, _, _, _, h1⟩
  · exact fin z z false none (.plainV hz2) h1 (.inl ⟨rfl, rfl, rfl⟩)
  · exact fin e0.2 e'.val true _ h2 h1 (.inr ⟨_, rfl, rfl⟩)

theorem q_lenM (r : Rel ι base s w) {c : Call} (ho : o.op = .call c) (hc : c.callee = .builtin .len) {t kt e : TypeId} {x : Operand} (ha : c.args = #[x]) (ht : c.argTypes[0]? = some t) (hT : P.underlying t = some (.map kt e)) {X : Value} (hX : VR ι X (ρ x))
    {es : List (Value × Value)} (he : mapEnts s X = some es) : Ok P ι w (execOp ρ o) (num (Int.ofNat es.length)) := by
  refine ⟨_, ?_, .int _ _⟩
  refine run_call_len ho hc (m := Builtin.len_ c.argTypes o.type (c.args.map ρ)) (fun _ => rfl) ?_
  obtain ⟨a, ha', he⟩ := ob_eq.1 he
  rw [asMap_eq ha'] at hX
  rw [ha]
  rcases hX.mapE with ⟨rfl, hm⟩ | ⟨b, B, rfl, hB, hm⟩
  · cases he
    simp [Builtin.len_, ht, hm, Go.run_underlying hT, Result.andThen, num, goInt]
  · obtain ⟨⟨es0, c0⟩, h1, h2⟩ := om_eq.1 he
    simp only at h2
    subst h2
    obtain ⟨es', clk', g1, g2⟩ := r.ents (asEnts_eq h1) hB
    obtain ⟨_, ⟨p, hp, hER⟩, _⟩ := g2
    have hlen : es'.size = es0.length := by rw [← hp.length_eq, hER.length]; simp
    simp [Builtin.len_, ht, hm, Go.run_underlying hT, Result.andThen, num, goInt, run_getObj_map g1, hlen]

theorem setObj_map {r : Nat} {es : Array MapEntry} {clk : Nat} (h : w.heap[r]? = some (.map es clk)) (o' : Obj) : (setObj r o').run P w = .ok () { w with heap := w.heap.setIfInBounds r o' } := run_setObj_map o' h

theorem ent_write (r : Rel ι base s w) {a : Nat} {es : List (Value × Value)} {c : Nat} (h : s.get a = some (.map es c)) {B : Blk} (hB : ι a = some B) {es' : Array MapEntry} {clk' : Nat} (hw : w.heap[B.b]? = some (.map es' clk'))
    {es2 : List (Value × Value)} {c2 clk2 : Nat} {es2' : Array MapEntry} (he : entsR ι es2 clk2 es2') (S : Nat → Prop) : Ext S ι base s w ι (s.set a (.map es2 c2)) { w with heap := w.heap.setIfInBounds B.b (.map es2' clk2) } := by
  obtain ⟨g1, g2⟩ := heap_set (o' := .map es2' clk2) hw
  exact Ext.write r a _ (.map es2 c2) B h rfl hB (by simp) (fun b hb => g2 b hb) rfl rfl rfl ⟨es2', clk2, g1, he⟩

theorem sameBits_key {c : CK} {d : TypeDesc} (hd : ckType c d) {x y : Value} {b : Bool} (h : keyEq (some [c]) x y = some b) : Instr.sameBits 10000 x x = true := by
  rw [keyOne] at h
  cases c <;> simp only [cellEq] at h
  · obtain ⟨p, hp, h⟩ := ob_eq.1 h; rw [asInt_eq hp]; simp [Instr.sameBits]
  · obtain ⟨p, hp, h⟩ := ob_eq.1 h; rw [asStr_eq hp, strOf]; simp only [Instr.sameBits]; exact (bytes_beq _ _).2 rfl
  · obtain ⟨p, hp, h⟩ := ob_eq.1 h; rw [asBool_eq hp]; simp [Instr.sameBits]
  · cases d <;> exact hd.elim

theorem d_mapSet (r : Rel ι base s w) {T kt e : TypeId} {m k x : Operand} (ho : o.op = .mapUpdate T m k x ∨ o.op = .insert T m k x) (hT : P.underlying T = some (.map kt e)) {c : CK} (hc : plainKey P kt = some c) {fr : Fr}
    (hM : VR ι ((rArg m).ev fr) (ρ m)) (hK : VR ι ((rArg k).ev fr) (ρ k)) (hX : VR ι ((rArg x).ev fr) (ρ x)) {v : Value} {s' : St} {id : Nat} (h : cMapSet (some [c]) (rArg m) (rArg k) (rArg x) fr s id = some (v, s')) (S : Nat → Prop) :
    Does P S ι base s w (execOp ρ o) v s' := by
  obtain ⟨d, hd, hcd⟩ := plainKey_eq hc
  obtain ⟨a0, h1, h8⟩ := ob_eq.1 h
  obtain ⟨a, h2, h9⟩ := ob_eq.1 h8
  clear h h8
  cases h2
  obtain ⟨⟨es, c0⟩, h3, h10⟩ := ob_eq.1 h9
  obtain ⟨q, h4, h6⟩ := ob_eq.1 h10
  obtain ⟨es2, h5, h7⟩ := om_eq.1 h6
  cases h7
  simp only at h3 h4 h5
  rw [asMap_eq h1] at hM
  obtain ⟨hh, _⟩ | ⟨b, B, hb, hB, hm⟩ := hM.mapE
  · cases hh
  cases hb
  obtain ⟨es', clk', g1, g2⟩ := r.ents (asEnts_eq h3) hB
  have hrun : ∀ (w' : World), (do
      match ← Instr.findKey kt (ρ k) es'.toList with
      | some (i, _) => do
        let key ← Instr.keyThatStays (((es'[i]?).map (·.key)).getD (ρ k)) (ρ k)
        setObj B.b (.map (es'.modify i fun e => { e with key, val := ρ x }) clk')
      | none => setObj B.b (.map (es'.push { key := ρ k, val := ρ x, born := clk' }) (clk' + 1)) : Sem Unit).run P w = .ok () w' → (execOp ρ o).run P w = .ok .skip w' := by
    intro w' hr
    have : (Instr.mapUpdate T (ρ m) (ρ k) (ρ x)).run P w = .ok () w' := by
      unfold Instr.mapUpdate
      rw [Sem.run_bind, Go.run_underlying hT]
      simp only [Result.andThen, hm, Sem.run_bind, run_getObj_map g1, run_checkPlain hcd hd]
      simp only [Sem.run_bind] at hr
      exact hr
    rcases ho with ho | ho <;> simp [execOp, ho, this, Result.andThen]
  obtain ⟨hpw, ⟨p, hp, hER⟩, hnd⟩ := g2
  rcases find_ok hcd hK ⟨hpw, ⟨p, hp, hER⟩, hnd⟩ h4 with ⟨rfl, f1, f2⟩ | ⟨e0, p1, p2, a', e', b', rfl, f1, f2, f3, f4, f5, f6, f7, f8, f9, f10⟩
  · -- a new key
    rw [(keyNone f2).1] at h5
    cases h5
    refine Does.skip (hrun _ ?_) (ent_write (es2' := es'.push { key := ρ k, val := ρ x, born := clk' }) (clk2 := clk' + 1) r (asEnts_eq h3) hB g1 ?_ S)
    · rw [Sem.run_bind, run_findKey hd f1]
      simp only [Result.andThen]
      exact setObj_map g1 _
    · refine ⟨?_, ⟨p ++ [((rArg k).ev fr, (rArg x).ev fr)], hp.append_right _, ?_⟩, ?_⟩
      · rw [List.pairwise_append]
        refine ⟨hpw, by simp, ?_⟩
        intro f hf g hg
        simp only [List.mem_singleton] at hg
        subst hg
        exact (key_eq hcd (f2 f hf)).2.1
      · rw [Array.toList_push]
        exact (hER.up (by omega)).append (.cons hK hX (by simp) .nil)
      · rw [Array.toList_push, List.map_append, List.nodup_append]
        refine ⟨hnd, by simp, ?_⟩
        intro q hq t ht hqt
        simp only [List.map_cons, List.map_nil, List.mem_singleton] at ht
        obtain ⟨f, hf, rfl⟩ := List.mem_map.1 hq
        have := hER.born f hf
        omega
  · -- an old one
    obtain ⟨k1, a1, b1, rfl, k2, _⟩ := keyFind_some h4
    rw [k2] at h5
    cases h5
    have hmod : es'.modify a'.length (fun e => { e with key := ρ k, val := ρ x }) = ⟨a' ++ { e' with key := ρ k, val := ρ x } :: b'⟩ := by
      have : es' = ⟨a' ++ e' :: b'⟩ := by rw [← f2]
      subst this
      apply Array.ext_getElem?
      intro i
      rw [Array.getElem?_modify, arr_get, arr_get]
      by_cases hi : a'.length = i
      · subst hi; simp
      · rw [if_neg hi]
        rcases Nat.lt_or_gt_of_ne hi with hlt | hgt
        · rw [List.getElem?_append_right (by omega), List.getElem?_append_right (by omega)]
          obtain ⟨j, hj⟩ : ∃ j, i - a'.length = j + 1 := ⟨i - a'.length - 1, by omega⟩
          rw [hj]; rfl
        · rw [List.getElem?_append_left (by omega), List.getElem?_append_left (by omega)]
    refine Does.skip (hrun _ ?_) (ent_write (es2' := ⟨a' ++ { e' with key := ρ k, val := ρ x } :: b'⟩) (clk2 := clk') r (asEnts_eq h3) hB g1 ?_ S)
    · rw [Sem.run_bind, run_findKey hd f10]
      simp only [Result.andThen]
      have hold : (((es'[a'.length]?).map (·.key)).getD (ρ k)) = ρ k := by
        rw [← Array.getElem?_toList, f2]; simp [f9]
      have hsb : Instr.sameBits 10000 (ρ k) (ρ k) = true := by
        have := (key_eq hcd k1).2.2.2.2.1 _ _ hK
        rw [this]; exact sameBits_key hcd k1
      rw [Sem.run_bind, hold]
      simp only [Instr.keyThatStays, hsb, if_true, Sem.run_pure, Result.andThen]
      rw [hmod]
      exact setObj_map g1 _
    · have hke : e0.1 = (rArg k).ev fr := f8
      refine ⟨?_, ⟨p1 ++ ((rArg k).ev fr, (rArg x).ev fr) :: p2, ?_, ?_⟩, ?_⟩
      · rw [List.pairwise_append, List.pairwise_cons] at hpw ⊢
        obtain ⟨q1, ⟨q2, q3⟩, q4⟩ := hpw
        refine ⟨q1, ⟨fun f hf => ?_, q3⟩, fun f hf g hg => ?_⟩
        · have := q2 f hf; unfold KA at *; rw [← hke]; exact this
        · rcases List.mem_cons.1 hg with rfl | hg
          · have := q4 f hf e0 (by simp); unfold KA at *; rw [← hke]; exact this
          · exact q4 f hf g (by simp [hg])
      · have e1 : (e0 :: (p1 ++ p2)).Perm (e0 :: (a1 ++ b1)) := (List.perm_middle.symm.trans f1).trans List.perm_middle
        have e2 := (List.perm_cons _).1 e1
        exact (List.perm_middle.trans ((List.perm_cons _).2 e2)).trans List.perm_middle.symm
      · exact f3.append (.cons hK hX f6 f7)
      · rw [f2] at hnd
        simpa using hnd
end
end Go.Ev
