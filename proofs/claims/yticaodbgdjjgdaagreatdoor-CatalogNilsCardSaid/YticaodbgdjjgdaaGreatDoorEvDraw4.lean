/-
  A region whose order is drawn: the whole.
-/
import Derived.Test.YticaodbgdjjgdaaGreatDoorEvDraw3
set_option linter.unusedVariables false
set_option linter.unusedSimpArgs false
namespace Go.Ev
open Go (Sem)

theorem before_edge {ops : Array Oper} {i : Nat} {o : Oper} (ho : ops[i]? = some o) {e : Edge} (he : e ∈ o.after) (hb : Region.binds .any e = true) : Bit ops i e.on := by
  unfold Bit
  rw [before_eq, ← Array.foldl_toList]
  have one : ∀ (acc : Array Nat) (o : Oper) (e : Edge), e ∈ o.after → Region.binds .any e = true → (maskOf acc o).testBit e.on = true := by
    intro acc o e he hb
    unfold maskOf
    rw [← Array.foldl_toList]
    have keep : ∀ (l : List Edge) (s j : Nat), s.testBit j = true → (l.foldl (fun s e => if Region.binds .any e then s ||| 2 ^ e.on ||| acc.getD e.on 0 else s) s).testBit j = true := by
      intro l
      induction l with
      | nil => intro s j h; exact h
      | cons x l ih =>
        intro s j h
        rw [List.foldl_cons]
        refine ih _ _ ?_
        split
        · rw [Nat.testBit_or, Nat.testBit_or, h]; rfl
        · exact h
    have key : ∀ (l : List Edge) (s : Nat), e ∈ l → (l.foldl (fun s e => if Region.binds .any e then s ||| 2 ^ e.on ||| acc.getD e.on 0 else s) s).testBit e.on = true := by
      intro l
      induction l with
      | nil => intro s h; simp at h
      | cons x l ih =>
        intro s h
        rw [List.foldl_cons]
        rcases List.mem_cons.1 h with rfl | h
        · refine keep _ _ _ ?_
          rw [if_pos hb, Nat.testBit_or, Nat.testBit_or, Nat.testBit_two_pow_self, Bool.or_true]; rfl
        · exact ih _ h
    exact key _ _ (by simpa using he)
  have key : ∀ (l pre : List Oper) (acc : Array Nat), acc.size = pre.length → (∀ (k : Nat) (o : Oper), pre[k]? = some o → ∀ e ∈ o.after, Region.binds .any e = true → (acc.getD k 0).testBit e.on = true) →
      ∀ (k : Nat) (o : Oper), (pre ++ l)[k]? = some o → ∀ e ∈ o.after, Region.binds .any e = true → ((l.foldl (fun acc o => acc.push (maskOf acc o)) acc).getD k 0).testBit e.on = true := by
    intro l
    induction l with
    | nil => intro pre acc h1 h2; simpa using h2
    | cons x l ih =>
      intro pre acc h1 h2
      have := ih (pre ++ [x]) (acc.push (maskOf acc x)) (by simp [h1]) ?_
      · simpa using this
      · intro k o hk e he hb
        rw [Array.getD_eq_getD_getElem?, Array.getElem?_push]
        by_cases h : k = acc.size
        · rw [if_pos h]
          rw [h, h1] at hk
          simp at hk
          subst hk
          exact one acc x e he hb
        · rw [if_neg h, ← Array.getD_eq_getD_getElem?]
          have hlt : k < pre.length := by
            have := (List.getElem?_eq_some_iff.1 hk).1
            simp at this
            omega
          rw [List.getElem?_append_left hlt] at hk
          exact h2 k o hk e he hb
  exact key ops.toList [] #[] rfl (fun k o h => by simp at h) i o (by rw [List.nil_append, Array.getElem?_toList]; exact ho) e he hb

/-- Which are done. -/
def Done (listed : Array Bool) (i : Nat) : Prop := listed.getD i false = true

section
variable {P : Program} {nt : Nat} {ops : Array Oper} {L : List COper} {pos : Nat → Nat} {call : Caller} {round : Rounder} {b : Nat} {F : Nat → Fr} {T : Nat → St} {V : Nat → Value}
  {ι0 : Inj} {base : Nat} {fr0 : Fr} {w0 : World} {ds : List Deferred} {D : Nat → Prop} {a : Act} {w : World} {K : Nat} {U : Nat → Option Ob} {ι : Inj} {S : Nat → Prop}

theorem Inv.finish (hp : Plan P nt ops L pos) (ht : Trace call round b L F T V) (hF : F 0 = fr0) (I : Inv ops L nt S b fr0 F T V ι0 base w0 ds D a w K U ι) (hall : ∀ (k : Nat) (x : COper), L[k]? = some x → D x.ix) :
    ExtF S ι0 base (T 0).get (T 0).next w0 ι (T L.length).get (T L.length).next w ∧ FR ι (F L.length) nt a.tmps := by
  have hlt : ∀ (k : Nat) (x : COper), L[k]? = some x → k < L.length := fun k x h => (List.getElem?_eq_some_iff.1 h).1
  obtain ⟨g1, g2, g3⟩ := I.part_at hp hp.plain ht I.le (Nat.le_refl _) (fun k x hy hk => by have := (I.wOld k x hy).1 (hall k x hy.1); omega) fun k x ob hm _ _ => hall k x hm.1
  have hU : U = (T L.length).get := by
    funext c
    cases e : (T L.length).get c with
    | some o => exact g2 c o e
    | none => exact g3 c e fun k x ob hm _ hk => by have := hlt k x hm.1; omega
  refine ⟨?_, I.tsize, fun t => ?_⟩
  · have := I.ext
    rw [hU, ← g1] at this
    exact this
  · by_cases h : ∃ (k : Nat) (y : COper), L[k]? = some y ∧ y.dst = some t
    · obtain ⟨k, y, hy, hd⟩ := h
      rw [frame_new hp ht hy hd _ (hlt k y hy) (Nat.le_refl _)]
      exact I.tmpsNew k y t hy (hall k y hy) hd
    · rw [frame_old ht _ (Nat.le_refl _) fun k y hy _ hd => h ⟨k, y, hy, hd⟩, hF]
      exact I.tmpsOld t fun k y hy _ hd => h ⟨k, y, hy, hd⟩

theorem ready_all (hp : Plan P nt ops L pos) {listed : Array Bool} (hs : listed.size = ops.size) (hr : Region.ready .any ops listed = []) : ∀ (k : Nat) (x : COper), L[k]? = some x → Done listed x.ix := by
  intro k
  induction k using Nat.strongRecOn with
  | _ k ih =>
    intro x hx
    obtain ⟨o, x0, ho, _, _, _, _, hpos⟩ := hp.op k x hx
    have hlt : x.ix < ops.size := (Array.getElem?_eq_some_iff.1 ho).1
    by_cases hd : Done listed x.ix
    · exact hd
    · exfalso
      have hm : x.ix ∈ Region.ready .any ops listed := by
        rw [mem_ready]
        refine ⟨?_, o, ho, fun e he hb => ?_⟩
        · unfold Done at hd
          rw [Array.getD_eq_getD_getElem?] at hd ⊢
          rw [Array.getElem?_eq_getElem (by omega)] at hd ⊢
          simpa using hd
        · have hbit := before_edge ho he hb
          obtain ⟨y, hy, hyi⟩ := hp.at_ e.on (hp.inside _ _ ho e he)
          rw [← hyi] at hbit ⊢
          rcases Nat.lt_trichotomy (pos e.on) k with h | h | h
          · exact ih _ h y hy
          · rw [h] at hy
            have := Plan.same hy hx
            rw [this] at hbit
            exact absurd hbit (hp.self k x hx)
          · exact absurd hbit (hp.lin _ _ _ _ hx hy h)
      rw [hr] at hm
      simp at hm

theorem done_set {listed : Array Bool} {i : Nat} (h : i < listed.size) : Done (listed.setIfInBounds i true) = fun j => Done listed j ∨ j = i := by
  funext j
  unfold Done
  rw [Array.getD_eq_getD_getElem?, Array.getD_eq_getD_getElem?, Array.getElem?_setIfInBounds]
  by_cases hj : i = j
  · subst hj; simp [h]
  · rw [if_neg hj]
    simp only [eq_iff_iff]
    exact ⟨.inl, fun h => h.resolve_right fun e => hj e.symm⟩

theorem count_set {l : List Bool} : ∀ {i : Nat}, l[i]? = some false → (l.set i true).count false + 1 = l.count false := by
  induction l with
  | nil => intro i h; simp at h
  | cons x l ih =>
    intro i h
    cases i with
    | zero => simp only [List.getElem?_cons_zero, Option.some.injEq] at h; subst h; simp
    | succ i =>
      have := ih (by simpa using h)
      simp only [List.set_cons_succ, List.count_cons]
      omega

theorem any_ok (hp : Plan P nt ops L pos) (ht : Trace call round b L F T V) (hF : F 0 = fr0) (hcall : GoodCall P call) (hround : NoRound round)
    (hnew : ∀ (k : Nat) (x : COper), L[k]? = some x → x.op.cl = .n → b + x.ix < (T 0).next) (hS : ∀ (k : Nat) (x : COper), L[k]? = some x → x.op.cl = .n → S (b + x.ix)) (hg : Globs P ι0) {Q : Exit → Act → World → Prop}
    (hQ : ∀ (κ : Inj) (a' : Act) (w' : World), ExtF S ι0 base (T 0).get (T 0).next w0 κ (T L.length).get (T L.length).next w' → FR κ (F L.length) nt a'.tmps → a'.defers = ds → Q .normal a' w') :
    ∀ (fuel : Nat) (listed : Array Bool) (a : Act) (w : World) (K : Nat) (U : Nat → Option Ob) (ι : Inj), listed.size = ops.size → listed.toList.count false ≤ fuel → Inv ops L nt S b fr0 F T V ι0 base w0 ds (Done listed) a w K U ι → wpAny P .any ops Q fuel listed a w := by
  intro fuel
  have fin : ∀ (listed : Array Bool) (a : Act) (w : World) (K : Nat) (U : Nat → Option Ob) (ι : Inj), listed.size = ops.size → Inv ops L nt S b fr0 F T V ι0 base w0 ds (Done listed) a w K U ι → Region.ready .any ops listed = [] → Q .normal a w := by
    intro listed a w K U ι hs I hr
    obtain ⟨h1, h2⟩ := I.finish hp ht hF (ready_all hp hs hr)
    exact hQ ι a w h1 h2 I.defers
  induction fuel with
  | zero =>
    intro listed a w K U ι hs hc I
    have hr : Region.ready .any ops listed = [] := by
      rw [List.eq_nil_iff_forall_not_mem]
      intro i hi
      obtain ⟨h1, o, ho, _⟩ := mem_ready.1 hi
      have hlt : i < listed.size := by rw [hs]; exact (Array.getElem?_eq_some_iff.1 ho).1
      rw [Array.getD_eq_getD_getElem?, Array.getElem?_eq_getElem hlt] at h1
      have hmem : false ∈ listed.toList := by
        rw [← h1]
        simp
      have := List.count_pos_iff.2 hmem
      omega
    exact ⟨hr, fin listed a w K U ι hs I hr⟩
  | succ fuel ih =>
    intro listed a w K U ι hs hc I
    refine ⟨fin listed a w K U ι hs I, ?_⟩
    intro i hi
    obtain ⟨h1, o, ho, he⟩ := mem_ready.1 hi
    have hlt : i < listed.size := by rw [hs]; exact (Array.getElem?_eq_some_iff.1 ho).1
    rw [Array.getD_eq_getD_getElem?, Array.getElem?_eq_getElem hlt] at h1
    have h1 : listed[i] = false := h1
    refine I.step hp ht hF hcall hround hnew hS hg ho (fun h => ?_) he fun a' w' K' U' κ I' => ?_
    · unfold Done at h
      rw [Array.getD_eq_getD_getElem?, Array.getElem?_eq_getElem hlt] at h
      have h : listed[i] = true := h
      rw [h1] at h; cases h
    · rw [← done_set hlt] at I'
      refine ih _ a' w' K' U' κ (by rw [Array.size_setIfInBounds]; exact hs) ?_ I'
      have := count_set (l := listed.toList) (i := i) (by rw [Array.getElem?_toList, Array.getElem?_eq_getElem hlt, h1])
      rw [Array.toList_setIfInBounds]
      omega
end

theorem reorder_plan {P : Program} {nt : Nat} {ops : Array Oper} {l L : List COper} (hl : ops.toList.zipIdx.mapM (fun (o, i) => rOper P nt ops o i) = some l) (h : reorder ops l = some L) : ∃ pos, Plan P nt ops L pos := by
  unfold reorder at h
  simp only at h
  split at h
  · cases h
  · rename_i ho
    have ho : once ops (Region.before ops) = true := by simpa using ho
    split at h
    · rename_i hg
      exact ⟨_, plan_good hl ho hg h⟩
    · split at h
      · rename_i hg
        exact ⟨_, plan_good hl ho hg h⟩
      · cases h

theorem draw_good {P : Program} (hm : P.follows .mixedOrders = true) : DrawGood P := by
  intro nt ops rid call round hcall hround news cs hr ι base fr fr' s s' w a Q hf hg r h hQ
  unfold rRegion at hr
  split at hr
  · rename_i l hl
    simp only [if_true] at hr
    split at hr
    · rename_i L hL
      cases hr
      obtain ⟨pos, hp⟩ := reorder_plan hl hL
      generalize hnn : (if (l.any fun o => o.op.cl == .n || (match o.op with | .rangeM _ => true | _ => false)) = true then l.length else 0) = nn at h
      obtain ⟨F, T, V, ht, hF, hT, hF', hT'⟩ := trace_of _ _ _ _ _ h
      obtain ⟨hl1, hl2⟩ := mapM_get hl
      rw [List.length_zipIdx, Array.length_toList (xs := ops)] at hl1
      have hn : ∀ (k : Nat) (x : COper), cs[k]? = some x → x.op.cl = .n → x.ix < nn := by
        intro k x hx hc
        obtain ⟨o, x0, h1, h2, _, h4, _⟩ := hp.op k x hx
        have hlt : x.ix < ops.size := (Array.getElem?_eq_some_iff.1 h1).1
        obtain ⟨y, h5, h6⟩ := hl2 x.ix (o, x.ix) (by rw [List.getElem?_zipIdx, Array.getElem?_toList, h1]; simp)
        simp only at h6
        rw [h2] at h6; cases h6
        have hany : (l.any fun o => o.op.cl == .n || (match o.op with | .rangeM _ => true | _ => false)) = true := List.any_eq_true.2 ⟨x0, List.mem_of_getElem? h5, by rw [← h4, hc]; rfl⟩
        rw [if_pos hany] at hnn
        omega
      refine wp_region_any hm ?_
      have hT0 : (T 0).next = s.next + nn := by rw [hT, St.skip_eq]; simp
      have hget : (T 0).get = s.get := by rw [hT, St.skip_eq]; funext c; simp
      have e0 : Ext none_ ι base s w ι (s.skip nn) { w with drawn := w.drawn + 1 } := by
        rw [St.skip_eq]
        have h1 : Ext none_ ι base s w ι s { w with drawn := w.drawn + 1 } := Ext.drew r _
        exact h1.trans (Ext.bump h1.rel nn)
      have e1 : RelF ι base (T 0).get (T 0).next { w with drawn := w.drawn + 1 } := by rw [hT]; exact e0.rel
      refine any_ok (fr0 := fr) (ds := a.defers) (S := mine s.next nn) hp ht hF hcall hround (fun k x hx hc => by rw [hT0]; have := hn k x hx hc; omega) (fun k x hx hc => ⟨by omega, by have := hn k x hx hc; omega⟩) hg
        (ι0 := ι) (base := base) (w0 := { w with drawn := w.drawn + 1 }) (fun κ a' w' g1 g2 g3 => ?_) ops.size (Array.replicate ops.size false) a _ 0 (T 0).get ι (by simp) (by simp) ?_
      · rw [hF'] at g2
        rw [hT', hT] at g1
        refine hQ κ a' w' ?_ g2 g3
        have h2 : Ext none_ ι base s w ι s { w with drawn := w.drawn + 1 } := Ext.drew r _
        exact h2.trans (Ext.skipped g1)
      · have hno : ∀ i, ¬ Done (Array.replicate ops.size false) i := by
          intro i hd
          unfold Done at hd
          rw [Array.getD_eq_getD_getElem?, Array.getElem?_replicate] at hd
          split at hd <;> cases hd
        have hfree : ∀ (x : COper), (T 0).get (s.next + x.ix) = none ∧ ι (s.next + x.ix) = none := fun x => by
          rw [hget]
          exact r.next _ (by omega)
        refine ⟨fun i o hd => (hno i hd).elim, fun k x _ => ⟨fun hd => (hno _ hd).elim, fun h => absurd h (Nat.not_lt_zero _)⟩, .inl rfl, Nat.zero_le _, e1, fun k x ob _ hd => (hno _ hd).elim, fun c _ => rfl, fun k x _ _ _ => (hfree x).1, fun k x _ _ _ => hfree x, fun k x t _ hd => (hno _ hd).elim, fun t _ => hf.val t, hf.size, rfl, ExtF.refl e1⟩
    · cases hr
  · cases hr
end Go.Ev
