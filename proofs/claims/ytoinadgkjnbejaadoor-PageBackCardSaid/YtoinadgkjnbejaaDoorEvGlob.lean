/-
  Package-level variables of which it is known what they hold; the library's steps that read them: Itoa, Atoi, Split.
-/
import Derived.Test.YtoinadgkjnbejaaDoorEvPart2


import Derived.Shelf.Strings.SplitShaped
import Derived.Shelf.Strconv.Itoa3
import Derived.Shelf.Small.Wraps
import Derived.Shelf.Strconv.AtoiAll
import Derived.Lib.SmallJoins
import Derived.Lib.ItoaMem
set_option linter.unusedVariables false
set_option linter.unusedSimpArgs false
namespace Go.Ev
open Go (Sem)
noncomputable section
def gl : List (Nat × List Value) → Nat → Option (List Value)
  | [], _ => none
  | (k, v) :: r, a => if k = a then some v else gl r a
def gInj (n : Nat) (G : List (Nat × List Value)) (R : List (Blk × List Value)) : Inj := fun a => if a < n then some ⟨a, 0, ((gl G a).getD []).length, 0⟩ else (R[a - n]?).map (·.1)
def gTr (G : List (Nat × List Value)) (t : Tr Ob) : Tr Ob := G.foldr (fun kv t => t.set kv.1 (.cells kv.2 0 .ro)) t
def gSt (n : Nat) (G : List (Nat × List Value)) (R : List (Blk × List Value)) : St := ⟨gTr G (rowsSt n R).heap, n + R.length⟩
theorem gTr_get (t : Tr Ob) (a : Nat) : ∀ G : List (Nat × List Value), (gTr G t).get a = match gl G a with | some v => some (.cells v 0 .ro) | none => t.get a
  | [] => rfl
  | (k, v) :: r => by
    show ((gTr r t).set k _).get a = match (if k = a then some v else gl r a) with | some v => some (.cells v 0 .ro) | none => t.get a
    rw [Tr.get_set, gTr_get t a r]
    by_cases h : k = a
    · rw [if_pos h, if_pos h]
    · rw [if_neg h, if_neg h]
theorem gSt_get {n : Nat} {G : List (Nat × List Value)} {R : List (Blk × List Value)} {a : Nat} : (gSt n G R).get a = match gl G a with | some v => some (.cells v 0 .ro) | none => (rowsSt n R).get a := gTr_get _ _ _
theorem gSt_rel {w : World} {n : Nat} {G : List (Nat × List Value)} {R : List (Blk × List Value)} (hsz : n ≤ w.heap.size)
    (hG : ∀ (k : Nat) (v : List Value), gl G k = some v → k < n ∧ ∃ cs' T fr, w.heap[k]? = some (.cells cs' T fr) ∧ cs'.size = v.length ∧ ∀ (j : Nat) (x : Value), v[j]? = some x → scal x ∧ ∃ y, cs'[j]? = some y ∧ VR (gInj n G R) x y)
    (h : ∀ (i : Nat) (r : Blk × List Value), R[i]? = some r → ∃ cs' T fr, w.heap[r.1.b]? = some (.cells cs' T fr) ∧ cs'.size = r.1.n ∧ r.1.sh + r.2.length ≤ r.1.n ∧ ∀ (j : Nat) (x : Value), r.2[j]? = some x → scal x ∧ ∃ y, cs'[r.1.sh + j]? = some y ∧ VR (gInj n G R) x y) :
    Rel (gInj n G R) w.heap.size (gSt n G R) w := by
  have hg : ∀ a o, (gSt n G R).get a = some o → (∃ v, gl G a = some v ∧ o = .cells v 0 .ro) ∨ ∃ i r, a = n + i ∧ R[i]? = some r ∧ o = .cells r.2 0 .ro := by
    intro a o ho
    rw [gSt_get] at ho
    cases hl : gl G a with
    | some v => rw [hl] at ho; cases ho; exact .inl ⟨v, rfl, rfl⟩
    | none =>
      rw [hl] at ho
      simp only at ho
      rw [rowsSt_get] at ho
      split at ho
      · rename_i hna
        rw [Option.map_eq_some_iff] at ho
        obtain ⟨r, h1, h2⟩ := ho
        exact .inr ⟨a - n, r, by omega, h1, h2.symm⟩
      · cases ho
  have hro : ∀ a o, (gSt n G R).get a = some o → owned o = false := by
    intro a o ho
    rcases hg a o ho with ⟨v, _, rfl⟩ | ⟨i, r, _, _, rfl⟩ <;> rfl
  refine ⟨fun a o ho _ => ?_, fun a a' o o' B B' ho _ _ h' => ?_, fun a o B ho h' => ?_, fun a ha => ⟨?_, ?_⟩, fun a B h' => ?_, Nat.le_refl _⟩
  · rcases hg a o ho with ⟨v, h1, rfl⟩ | ⟨i, r, rfl, h1, rfl⟩
    · obtain ⟨h2, cs', T, fr, h3, h4, h5⟩ := hG a v h1
      refine ⟨⟨a, 0, v.length, 0⟩, ?_, cs', T, fr, h3, ⟨h4, by simp, fun j x hx => ?_, trivial⟩, tyOk.zero fun h => by cases h⟩
      · unfold gInj
        rw [if_pos h2, h1]; rfl
      · rw [Nat.zero_add]; exact h5 j x hx
    · obtain ⟨cs', T, fr, h2, h3, h4, h5⟩ := h i r h1
      refine ⟨r.1, ?_, cs', T, fr, h2, ⟨h3, h4, h5, trivial⟩, tyOk.zero fun h => by cases h⟩
      unfold gInj
      rw [if_neg (by omega), show n + i - n = i from by omega, h1]; rfl
  · rw [hro a o ho] at h'; cases h'
  · rw [hro a o ho] at h'; cases h'
  · have ha : n + R.length ≤ a := ha
    rw [gSt_get]
    cases hl : gl G a with
    | some v => have := (hG a v hl).1; omega
    | none => simp only; rw [rowsSt_get, if_pos (by omega), List.getElem?_eq_none (by omega)]; rfl
  · have ha : n + R.length ≤ a := ha
    unfold gInj
    rw [if_neg (by omega), List.getElem?_eq_none (by omega)]; rfl
  · unfold gInj at h'
    split at h'
    · cases h'; simp only; omega
    · rw [Option.map_eq_some_iff] at h'
      obtain ⟨r, h1, rfl⟩ := h'
      obtain ⟨cs', T, fr, h2, _⟩ := h _ r h1
      exact (Array.getElem?_eq_some_iff.1 h2).1
theorem gSt_globs {P : Program} {n : Nat} {G : List (Nat × List Value)} {R : List (Blk × List Value)} (hn : P.globals.size = n) (hsz : ∀ k v, gl G k = some v → gsz P k = v.length) : Globs P (gInj n G R) := fun g hg => by
  refine ⟨_, if_pos (hn ▸ hg), rfl, rfl, ?_⟩
  cases hl : gl G g with
  | none => exact .inl rfl
  | some v => exact .inr (hsz g v hl).symm
def At (s : St) (g : Nat) (vs : List Value) : Prop := s.get g = some (.cells vs 0 .ro)
theorem At.low {s t : St} {g lo : Nat} {vs : List Value} (h : At s g vs) (k : Low lo s t) (hg : g < lo) : At t g vs := (k.2.2 g hg).trans h
theorem At.but {s t : St} {g a : Nat} {vs : List Value} (h : At s g vs) (k : But a s t) (hg : g < s.next) (ha : g ≠ a) : At t g vs := (k.2 g hg ha).trans h
section
variable {P : Program} {ι : Inj} {base : Nat} {s : St} {w : World}
theorem at_world {g : Nat} {vs : List Value} (hg : Globs P ι) (r : Rel ι base s w) (hlt : g < P.globals.size) (h : At s g vs) (hn : 0 < vs.length) :
    ∃ cs' T fr, w.heap[g]? = some (.cells cs' T fr) ∧ cs'.size = gsz P g ∧ ∀ (i : Nat) (x : Value), vs[i]? = some x → ∃ y, cs'[i]? = some y ∧ VR ι x y := by
  obtain ⟨B, h1, h2, h3, h4⟩ := hg g hlt
  obtain ⟨cs', T, fr, g1, ⟨g2, g3, g4, g5⟩, g6⟩ := r.cells h h1
  rw [h2] at g1
  refine ⟨cs', T, fr, g1, by omega, fun i x hx => ?_⟩
  obtain ⟨_, y, e1, e2⟩ := g4 i x hx
  rw [h3, Nat.zero_add] at e1
  exact ⟨y, e1, e2⟩
theorem at_cell {g : Nat} {vs : List Value} (hg : Globs P ι) (r : Rel ι base s w) (hlt : g < P.globals.size) (h : At s g vs) {x : Value} (hx : vs[0]? = some x) : ∃ y, w.cell? ⟨g, 0, none⟩ = some y ∧ VR ι x y := by
  have hn : 0 < vs.length := (List.getElem?_eq_some_iff.1 hx).1
  obtain ⟨cs', T, fr, g1, g2, g3⟩ := at_world hg r hlt h hn
  obtain ⟨y, e1, e2⟩ := g3 0 x hx
  exact ⟨y, by simp [World.cell?, g1, e1], e2⟩
theorem tab_is {g : Nat} {name : String} {k : IntKind} {zs : List Int} (hg : Globs P ι) (r : Rel ι base s w) (hname : P.globalNamed name = some g) (hlt : g < P.globals.size) (hsz : gsz P g = zs.length) (hn : 0 < zs.length) (h : At s g (zs.map (Value.int k))) : Lib.TabIs P w name k zs := by
  obtain ⟨cs', T, fr, g1, g2, g3⟩ := at_world hg r hlt h (by simpa using hn)
  show w.var? P name = _
  unfold World.var?
  rw [hname]
  simp only [Option.bind_some, g1]
  congr 1
  apply Array.ext_getElem?
  intro i
  by_cases hi : i < zs.length
  · obtain ⟨y, e1, e2⟩ := g3 i (.int k zs[i]) (by rw [List.getElem?_map, List.getElem?_eq_getElem hi]; rfl)
    rw [e1, e2.intE]
    simp [hi]
  · rw [Array.getElem?_eq_none (by omega), Array.getElem?_eq_none (by simp; omega)]
theorem isPrim_of {f : FuncId} {p : Prim} (en : ∀ args w, (callFunc f args).run P w = .ok (.enter f args) w)
    (h : ∀ {ι : Inj} {base : Nat} {s : St} {w : World} {args args' : List Value} {v : Value} {s' : St}, Globs P ι → Rel ι base s w → LR ι args args' → p args s = some (v, s') → Calls P f ⟨args'⟩ w fun e w' => ∃ v' κ, e = .returned v' ∧ Ext none_ ι base s w κ s' w' ∧ VR κ v v') : IsPrim P f p := by
  intro ι base s w args args' v s' hg r ha hp
  refine .inr ⟨en _ _, (h hg r ha hp).mono fun e w' he => ?_⟩
  obtain ⟨v', κ, rfl, h1, h2⟩ := he
  exact ⟨κ, h1, h2⟩
theorem Ext.newDark {w' : World} (r : Rel ι base s w) (b : Go.RowKit.Below w.heap.size w w') {g : Nat} (hg : w.heap.size ≤ g) (hlt : g < w'.heap.size) : Ext none_ ι base s w (ι.put s.next ⟨g, 0, 0, 0⟩) (s.bump 1) w' := by
  have e := Ext.ofBelow (S := none_) r b
  have r' := e.rel
  obtain ⟨n1, n2⟩ := r'.next s.next (Nat.le_refl _)
  have hle : ι.le (ι.put s.next ⟨g, 0, 0, 0⟩) := Inj.le_put _ n2
  have ne : ∀ a o, s.get a = some o → a ≠ s.next := fun a o h e => by
    have := (r.next s.next (Nat.le_refl _)).1
    rw [e] at h; rw [h] at this; cases this
  refine ⟨hle, ⟨?_, ?_, ?_, ?_, ?_, ?_⟩, by simp, ?_, e.keep, ?_, e.size, e.os, e.tape, e.output⟩
  · intro a o1 h hl1
    rw [St.get_bump] at h
    obtain ⟨B, g1, g2⟩ := r'.ob a o1 h hl1
    exact ⟨B, hle _ _ g1, g2.mono hle⟩
  · intro a a' o1 o2 B B' h h' hne ho hl2 hB hB'
    rw [St.get_bump] at h h'
    rw [Inj.put_ne _ _ (ne a o1 h)] at hB
    rw [Inj.put_ne _ _ (ne a' o2 h')] at hB'
    exact r'.sep a a' o1 o2 B B' h h' hne ho hl2 hB hB'
  · intro a o1 B h ho hB
    rw [St.get_bump] at h
    rw [Inj.put_ne _ _ (ne a o1 h)] at hB
    exact r'.own a o1 B h ho hB
  · intro a ha
    simp only [St.next_bump] at ha
    obtain ⟨g1, g2⟩ := r'.next a (by omega)
    rw [St.get_bump, Inj.put_ne _ _ (by omega)]
    exact ⟨g1, g2⟩
  · intro a B hB
    by_cases e : a = s.next
    · subst e; rw [Inj.put_same] at hB; cases hB; exact hlt
    · rw [Inj.put_ne _ _ e] at hB; exact r'.blk a B hB
  · exact r'.base_le
  · intro a ha _ g1
    rw [St.get_bump, Inj.put_ne _ _ (by omega)]
    exact ⟨g1, id⟩
  · intro a o1 B h hl1 hB hlt1
    rw [St.get_bump] at h
    rw [Inj.put_ne _ _ (ne a o1 h)] at hB
    exact ⟨a, o1, B, h, hl1, fun h => h, hB, rfl⟩
end
def powRow : List Value := Lib.pow10Tab.map (Value.int .u64)
open Classical in
def pItoa (g : Nat) : Prim := fun args s => match args with
  | [.int .i64 n] => if (-9223372036854775808 ≤ n ∧ n ≤ 9223372036854775807) ∧ At s g powRow then some (strOf (Lib.itoa n), s) else none
  | _ => none
open Classical in
theorem pItoa_run {s : St} {g n : Nat} (h : At s g powRow) (hn : n < 4611686018427387904) : pItoa g [.int .i64 (n : Int)] s = some (strOf (Lib.decDigits n), s) := by
  show (if _ then some (strOf (Lib.itoa (n : Int)), s) else none) = _
  rw [if_pos ⟨⟨by omega, by omega⟩, h⟩, Lib.itoa_nonneg]
open Go.Proofs Go.Shelf in
theorem isPrim_itoa {P : Program} {ρ : Ren} (L : LaysM.n171 P ρ) (en : ∀ args w, (callFunc (ρ.f 171) args).run P w = .ok (.enter (ρ.f 171) args) w) {g : Nat} (hname : P.globalNamed "internal/strconv.uint64pow10" = some g) (hlt : g < P.globals.size) (hsz : gsz P g = 20) : IsPrim P (ρ.f 171) (pItoa g) := by
  refine isPrim_of en fun {ι base s w args args' v s'} hg r ha hp => ?_
  unfold pItoa at hp
  split at hp
  · rename_i n
    split at hp
    · rename_i hc
      cases hp
      obtain ⟨y, rfl, hy⟩ := ha.one
      rw [hy.intE]
      refine (Any.strconv_Itoa L n hc.1.1 hc.1.2 w (tab_is hg r hname hlt (by rw [hsz]; rfl) (by decide) hc.2)).mono fun e w' he => ?_
      obtain ⟨rfl, k, os, rfl⟩ := he
      exact ⟨_, ι, rfl, Ext.ofBelow r ⟨rfl, rfl, rfl, by show w.heap.size ≤ (w.heap ++ os).size; simp, fun j hj => by show (w.heap ++ os)[j]? = w.heap[j]?; exact Array.getElem?_append_left hj⟩, .string _⟩
    · cases hp
  · cases hp
def errRow (s : St) (g : Nat) : Prop := ∃ tp p, At s g [.iface tp p]
open Classical in
def pAtoi (g1 g2 : Nat) (T : TypeId) : Prim := fun args s => match args with
  | [.string b] => if b.size ≤ 281474976710656 ∧ errRow s g1 ∧ errRow s g2 then
      match Lib.atoiAll b.data.toList with
      | .ok v => some (.tuple ⟨[.int .i64 v, .nilIface]⟩, s)
      | .range => some (.tuple ⟨[.int .i64 (Lib.atoiSat b.data.toList), .iface T (ptr s.next 0)]⟩, s.bump 1)
      | _ => some (.tuple ⟨[.int .i64 0, .iface T (ptr s.next 0)]⟩, s.bump 1)
    else none
  | _ => none
open Go.Proofs Go.Shelf in
theorem isPrim_atoi {P : Program} {ρ : Ren} (L : LaysC.n172 P ρ) (en : ∀ args w, (callFunc (ρ.f 172) args).run P w = .ok (.enter (ρ.f 172) args) w) (h1 : ρ.g 15 < P.globals.size) (h2 : ρ.g 16 < P.globals.size) : IsPrim P (ρ.f 172) (pAtoi (ρ.g 15) (ρ.g 16) (ρ.t 168)) := by
  refine isPrim_of en fun {ι base s w args args' v s'} hg r ha hp => ?_
  unfold pAtoi at hp
  split at hp
  · rename_i b
    split at hp
    · rename_i hc
      obtain ⟨hb, ⟨tp1, p1, hr1⟩, ⟨tp2, p2, hr2⟩⟩ := hc
      obtain ⟨y, rfl, hy⟩ := ha.one
      cases hy
      have ev : ∀ {g : Nat} {tp : TypeId} {p : Value}, g < P.globals.size → At s g [.iface tp p] → ∃ e, w.cell? ⟨g, 0, none⟩ = some e ∧ (e = .nilIface ∨ ∃ te pe, e = .iface te pe) := by
        intro g tp p hlt hat
        obtain ⟨e, e1, e2⟩ := at_cell hg r hlt hat rfl
        cases e2
        exact ⟨_, e1, .inr ⟨_, _, rfl⟩⟩
      have dark : ∀ {N : Nat} {w' : World} {o : Obj} (z : Int), w.heap.size ≤ N → w'.heap[N]? = some o → Go.RowKit.Below w.heap.size w w' → ∃ κ, Ext none_ ι base s w κ (s.bump 1) w' ∧ VR κ (.tuple ⟨[.int .i64 z, .iface (ρ.t 168) (ptr s.next 0)]⟩) (.tuple #[.int .i64 z, .iface (ρ.t 168) (.pointer (some ⟨N, 0, none⟩))]) := by
        intro N w' o z hN ho hbel
        refine ⟨_, Ext.newDark r hbel hN (Array.getElem?_eq_some_iff.1 ho).1, .tupI (.cons (.int _ _) (.cons (.iface _ (.ptr ?_)) .nil))⟩
        exact ⟨_, Inj.put_same _ _ _, rfl, rfl⟩
      split at hp
      · rename_i v0 hv
        cases hp
        refine (Any.strconv_Atoi_ok L b (by omega) v0 hv w).mono fun e w' he => ?_
        obtain ⟨rfl, he⟩ := he
        refine ⟨_, ι, rfl, Ext.ofBelow r ?_, .tupI (.cons (.int _ _) (.cons .nilI .nil))⟩
        rcases he with rfl | ⟨t, rfl⟩
        · exact Go.RowKit.Below.refl _ _
        · exact Go.Joins.below_bytesWorld _ _ _ _ (Nat.le_refl _)
      · rename_i hv
        cases hp
        obtain ⟨e, e1, e2⟩ := ev h2 hr2
        refine (Any.strconv_Atoi_range L b hb hv e w e1 e2).mono fun x w' he => ?_
        obtain ⟨N, rfl, k1, k2, k3⟩ := he
        obtain ⟨κ, g1, g2⟩ := dark _ k1 k2 k3
        exact ⟨_, κ, rfl, g1, g2⟩
      · rename_i n1 n2
        cases hp
        obtain ⟨e, e1, e2⟩ := ev h1 hr1
        refine (Any.strconv_Atoi_syntax L b hb (by cases hh : Lib.atoiAll b.data.toList with | ok v => exact absurd hh (n1 v) | range => exact absurd hh n2 | _ => rfl) e w e1 e2).mono fun x w' he => ?_
        obtain ⟨N, rfl, k1, k2, k3⟩ := he
        obtain ⟨κ, g1, g2⟩ := dark 0 k1 k2 k3
        exact ⟨_, κ, rfl, g1, g2⟩
    · cases hp
  · cases hp
def intRow (s : St) (g : Nat) : Prop := ∃ m, At s g [.int .i64 m]
open Classical in
def pSplit (g : Nat) (T : TypeId) : Prim := fun args s => match args with
  | [.string b, .string c] => if b.size < 4294967281 ∧ 1 ≤ c.size ∧ intRow s g then
      some (.slice (some ⟨s.next, 0, none⟩) (Lib.split b.data.toList c.data.toList).length (Lib.split b.data.toList c.data.toList).length, s.made ((Lib.split b.data.toList c.data.toList).map strOf) (tag T 1) .ex) else none
  | _ => none
theorem split_B (b c : ByteArray) : Lib.split b.data.toList c.data.toList = (Lib.splitB c 0 (Lib.countB b c) b).map (·.data.toList) := (Lib.splitB_data c 0 _ b).symm
open Go.Proofs Go.Shelf in
theorem isPrim_split {P : Program} {ρ : Ren} (L : LaysM.n146 P ρ) (en : ∀ args w, (callFunc (ρ.f 146) args).run P w = .ok (.enter (ρ.f 146) args) w) (h1 : ρ.g 1 < P.globals.size) : IsPrim P (ρ.f 146) (pSplit (ρ.g 1) (ρ.t 9)) := by
  refine isPrim_of en fun {ι base s w args args' v s'} hg r ha hp => ?_
  unfold pSplit at hp
  split at hp
  · rename_i b c
    split at hp
    · rename_i hc
      obtain ⟨hb, hc1, m, hm⟩ := hc
      cases hp
      obtain ⟨y, z, rfl, hy, hz⟩ := ha.two
      cases hy
      cases hz
      obtain ⟨e, e1, e2⟩ := at_cell hg r h1 hm rfl
      rw [e2.intE] at e1
      refine (Any.strings_Split { L with } L.i9 b c m w hb e1 hc1).mono fun x w' he => ?_
      obtain ⟨rfl, rfl⟩ := he
      have hlen := Lib.splitB_all c hc1 0 _ b rfl
      have hle := Lib.countB_le c hc1 b.size b (Nat.le_refl _)
      have hk : (Lib.split b.data.toList c.data.toList).length = Lib.countB b c + 1 := by
        rw [split_B, List.length_map]; exact hlen
      rw [hk]
      refine ⟨_, _, rfl, Ext.newIn (o := .cells ((Lib.split b.data.toList c.data.toList).map strOf) (tag (ρ.t 9) 1) .ex) (n := Lib.countB b c + 1) (es := 1) r ((Go.RowKit.Below.refl _ _).alloc (Nat.le_refl _) _) (Nat.le_refl _) (by simp) rfl ?_, ?_⟩
      · refine ⟨_, ρ.t 9, (0, 0), heap_push_get _ _, ⟨?_, ?_, fun i x hx => ?_, ?_⟩, ?_⟩
        · simp [hlen]
        · simp [hk]
        · rw [split_B, List.map_map, List.getElem?_map] at hx
          cases hi : (Lib.splitB c 0 (Lib.countB b c) b)[i]? with
          | none => rw [hi] at hx; cases hx
          | some q =>
            rw [hi] at hx
            cases hx
            refine ⟨trivial, .string q, ?_, .string _⟩
            rw [Nat.zero_add, List.getElem?_toArray, List.getElem?_map, hi]; rfl
        · exact ⟨rfl, by simp [hk], rfl⟩
        · exact ⟨fun h => ⟨(esz_tag (T := ρ.t 9) (size := 1) (by omega)).symm, by rw [esz_tag (T := ρ.t 9) (size := 1) (by omega)]; omega⟩, .inr ⟨ety_tag (by omega), (fun h => by cases h), (fun h => by cases h)⟩⟩
      · exact .sl ⟨_, Inj.put_same _ _ _, rfl, rfl⟩ (by unfold open_; omega) (Nat.le_refl _)
    · cases hp
  · cases hp
def pHasPrefix : Prim := fun args s => match args with
  | [.string a, .string b] => some (.bool (Lib.hasPrefix a.data.toList b.data.toList), s)
  | _ => none
def pCutPrefix : Prim := fun args s => match args with
  | [.string a, .string b] => some (.tuple ⟨[strOf (Lib.trimPrefix a.data.toList b.data.toList), .bool (Lib.hasPrefix a.data.toList b.data.toList)]⟩, s)
  | _ => none
def pCutSuffix : Prim := fun args s => match args with
  | [.string a, .string b] => if a.size ≤ 9223372036854775807 then some (.tuple ⟨[strOf (Lib.trimSuffix a.data.toList b.data.toList), .bool (Lib.hasSuffix a.data.toList b.data.toList)]⟩, s) else none
  | _ => none
section
open Go.Proofs Go.Shelf
variable {P : Program} {ρ : Ren}
theorem isPrim_hasPrefix (L : Lays.n99 P ρ) (en : ∀ args w, (callFunc (ρ.f 99) args).run P w = .ok (.enter (ρ.f 99) args) w) : IsPrim P (ρ.f 99) pHasPrefix := by
  refine isPrim_of en fun {ι base s w args args' v s'} hg r ha hp => ?_
  unfold pHasPrefix at hp
  split at hp
  · rename_i a b
    cases hp
    obtain ⟨y, z, rfl, hy, hz⟩ := ha.two
    cases hy
    cases hz
    refine (Any.strings_HasPrefix L a b w).mono fun x w' he => ?_
    obtain ⟨rfl, rfl⟩ := he
    exact ⟨_, ι, rfl, Ext.refl r, .bool _⟩
  · cases hp
theorem isPrim_cutPrefix (L : Lays.n103 P ρ) (en : ∀ args w, (callFunc (ρ.f 103) args).run P w = .ok (.enter (ρ.f 103) args) w) : IsPrim P (ρ.f 103) pCutPrefix := by
  refine isPrim_of en fun {ι base s w args args' v s'} hg r ha hp => ?_
  unfold pCutPrefix at hp
  split at hp
  · rename_i a b
    cases hp
    obtain ⟨y, z, rfl, hy, hz⟩ := ha.two
    cases hy
    cases hz
    refine (Any.strings_CutPrefix L a b w).mono fun x w' he => ?_
    obtain ⟨rfl, rfl⟩ := he
    exact ⟨_, ι, rfl, Ext.refl r, .tupI (.cons (.string _) (.cons (.bool _) .nil))⟩
  · cases hp
theorem isPrim_cutSuffix (L : Lays.n104 P ρ) (en : ∀ args w, (callFunc (ρ.f 104) args).run P w = .ok (.enter (ρ.f 104) args) w) : IsPrim P (ρ.f 104) pCutSuffix := by
  refine isPrim_of en fun {ι base s w args args' v s'} hg r ha hp => ?_
  unfold pCutSuffix at hp
  split at hp
  · rename_i a b
    split at hp
    · rename_i hsz
      cases hp
      obtain ⟨y, z, rfl, hy, hz⟩ := ha.two
      cases hy
      cases hz
      refine (Any.strings_CutSuffix L a b w hsz).mono fun x w' he => ?_
      obtain ⟨rfl, rfl⟩ := he
      exact ⟨_, ι, rfl, Ext.refl r, .tupI (.cons (.string _) (.cons (.bool _) .nil))⟩
    · cases hp
  · cases hp
end
end
end Go.Ev
