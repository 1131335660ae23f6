/-
  How an abstract state stands to a world: rows to blocks, values to values.
-/
import Derived.Test.YticaodbgdjjgdaaGreatDoorEvTr
import Derived.Below
set_option linter.unusedVariables false
set_option linter.unusedSimpArgs false
namespace Go.Ev

/-- Where an abstract row lies: in which block, from where on, how many cells that block has, how many cells an element has. -/
structure Blk where
  b : Nat
  sh : Nat
  n : Nat
  es : Nat

abbrev Inj := Nat → Option Blk
def Inj.le (i j : Inj) : Prop := ∀ a B, i a = some B → j a = some B
theorem Inj.le_refl (i : Inj) : i.le i := fun _ _ h => h
theorem Inj.le_trans {i j k : Inj} (h : i.le j) (h' : j.le k) : i.le k := fun a B e => h' a B (h a B e)

def AR (ι : Inj) (a a' : Addr) : Prop := ∃ B, ι a.block = some B ∧ a.spot = none ∧ a' = ⟨B.b, B.sh + a.off, none⟩
theorem AR.mono {ι κ : Inj} (h : ι.le κ) {a a' : Addr} (r : AR ι a a') : AR κ a a' := by
  obtain ⟨B, h1, h2, h3⟩ := r
  exact ⟨B, h _ _ h1, h2, h3⟩
theorem AR.add {ι : Inj} {a a' : Addr} (r : AR ι a a') (n : Nat) : AR ι (a.add n) (a'.add n) := by
  obtain ⟨B, h1, h2, rfl⟩ := r
  unfold Addr.add
  by_cases h : n = 0
  · subst h; exact ⟨B, h1, h2, rfl⟩
  · rw [if_neg h, if_neg h]; exact ⟨B, h1, rfl, by simp [Nat.add_assoc]⟩

def FnR (ι : Inj) (f f' : Fn) : Prop := match f with
  | .func g => f' = .func g
  | .yield l => ∃ B, ι l = some B ∧ f' = .yield B.b
  | _ => False

/-- A value of one cell. -/
def scal : Value → Prop
  | .agg _ | .tuple _ => False
  | _ => True

inductive VR (ι : Inj) : Value → Value → Prop
  | bool (b : Bool) : VR ι (.bool b) (.bool b)
  | int (k : IntKind) (n : Int) : VR ι (.int k n) (.int k n)
  | string (b : ByteArray) : VR ι (.string b) (.string b)
  | ptrN : VR ι (.pointer none) (.pointer none)
  | ptr {a a' : Addr} (h : AR ι a a') : VR ι (.pointer (some a)) (.pointer (some a'))
  | slN : VR ι (.slice none 0 0) (.slice none 0 0)
  | sl {a a' : Addr} {n c : Nat} (h : AR ι a a') (hc : c < open_) (hn : n ≤ c) : VR ι (.slice (some a) n c) (.slice (some a') n c)
  | slO {a a' : Addr} {n c : Nat} {B : Blk} (h : ι a.block = some B) (hs : a.spot = none) (ha : a' = ⟨B.b, B.sh + a.off, none⟩) (hc : a'.off + c * B.es = B.n) (hn : n ≤ c) : VR ι (.slice (some a) n open_) (.slice (some a') n c)
  | slV {a a' : Addr} {B : Blk} (h : ι a.block = some B) (hs : a.spot = none) (ha : B.sh + a.off = B.n) : VR ι (.slice (some a) 0 open_) (.slice (some a') 0 0)
  | mapN : VR ι (.map none) (.map none)
  | map {r : Nat} {B : Blk} (h : ι r = some B) : VR ι (.map (some r)) (.map (some B.b))
  | nilF : VR ι .nilFunc .nilFunc
  | nilI : VR ι .nilIface .nilIface
  | iface (t : TypeId) {v v' : Value} (h : VR ι v v') : VR ι (.iface t v) (.iface t v')
  | func {f f' : Fn} {a a' c c' : List Value} (hf : FnR ι f f') (ha : a.length = a'.length) (hav : ∀ (i : Nat) (x y : Value), a[i]? = some x → a'[i]? = some y → VR ι x y)
      (hc : c.length = c'.length) (hcv : ∀ (i : Nat) (x y : Value), c[i]? = some x → c'[i]? = some y → VR ι x y) : VR ι (.func f ⟨a⟩ ⟨c⟩) (.func f' ⟨a'⟩ ⟨c'⟩)
  | agg {a a' : List Value} (hs : ∀ x ∈ a, scal x) (ha : a.length = a'.length) (hav : ∀ (i : Nat) (x y : Value), a[i]? = some x → a'[i]? = some y → VR ι x y) : VR ι (.agg ⟨a⟩) (.agg ⟨a'⟩)
  | tuple {a a' : List Value} (ha : a.length = a'.length) (hav : ∀ (i : Nat) (x y : Value), a[i]? = some x → a'[i]? = some y → VR ι x y) : VR ι (.tuple ⟨a⟩) (.tuple ⟨a'⟩)

theorem VR.mono {ι κ : Inj} (h : ι.le κ) {v v' : Value} (r : VR ι v v') : VR κ v v' := by
  induction r with
  | bool b => exact .bool b
  | int k n => exact .int k n
  | string b => exact .string b
  | ptrN => exact .ptrN
  | ptr r => exact .ptr (r.mono h)
  | slN => exact .slN
  | sl r hc hn => exact .sl (r.mono h) hc hn
  | slO h1 hs ha hc hn => exact .slO (h _ _ h1) hs ha hc hn
  | slV h1 hs ha => exact .slV (h _ _ h1) hs ha
  | mapN => exact .mapN
  | map h1 => exact .map (h _ _ h1)
  | nilF => exact .nilF
  | nilI => exact .nilI
  | iface t _ ih => exact .iface t ih
  | func hf ha _ hc _ iha ihc =>
    refine .func ?_ ha iha hc ihc
    revert hf
    unfold FnR
    split <;> intro hf
    · exact hf
    · obtain ⟨B, h1, h2⟩ := hf; exact ⟨B, h _ _ h1, h2⟩
    · exact hf
  | agg hs ha _ iha => exact .agg hs ha iha
  | tuple ha _ iha => exact .tuple ha iha

/-- Lists of values, one by one. -/
inductive LR (ι : Inj) : List Value → List Value → Prop
  | nil : LR ι [] []
  | cons {x y : Value} {l m : List Value} (h : VR ι x y) (t : LR ι l m) : LR ι (x :: l) (y :: m)

theorem LR.length {ι : Inj} {l m : List Value} (h : LR ι l m) : l.length = m.length := by
  induction h with
  | nil => rfl
  | cons _ _ ih => simp [ih]
theorem LR.get {ι : Inj} {l m : List Value} (h : LR ι l m) : ∀ (i : Nat) (x y : Value), l[i]? = some x → m[i]? = some y → VR ι x y := by
  induction h with
  | nil => intro i x y h; simp at h
  | cons h _ ih =>
    intro i x y hx hy
    cases i with
    | zero => simp at hx hy; subst hx; subst hy; exact h
    | succ i => exact ih i x y (by simpa using hx) (by simpa using hy)
theorem LR.of {ι : Inj} : ∀ {l m : List Value}, l.length = m.length → (∀ (i : Nat) (x y : Value), l[i]? = some x → m[i]? = some y → VR ι x y) → LR ι l m
  | [], [], _, _ => .nil
  | [], _ :: _, h, _ => by simp at h
  | _ :: _, [], h, _ => by simp at h
  | x :: l, y :: m, h, hv => .cons (hv 0 x y rfl rfl) (LR.of (by simpa using h) fun i a b ha hb => hv (i + 1) a b (by simpa using ha) (by simpa using hb))
theorem LR.mono {ι κ : Inj} (h : ι.le κ) {l m : List Value} (r : LR ι l m) : LR κ l m := by
  induction r with
  | nil => exact .nil
  | cons hv _ ih => exact .cons (hv.mono h) ih
theorem LR.some {ι : Inj} {l m : List Value} (h : LR ι l m) {i : Nat} {x : Value} (hx : l[i]? = .some x) : ∃ y, m[i]? = .some y ∧ VR ι x y := by
  have hlt : i < m.length := by
    have := h.length
    have := (List.getElem?_eq_some_iff.1 hx).1
    omega
  exact ⟨m[i], List.getElem?_eq_getElem hlt, h.get i x _ hx (List.getElem?_eq_getElem hlt)⟩
theorem LR.append {ι : Inj} {l m l' m' : List Value} (h : LR ι l m) (h' : LR ι l' m') : LR ι (l ++ l') (m ++ m') := by
  induction h with
  | nil => exact h'
  | cons hv _ ih => exact .cons hv ih
theorem LR.take {ι : Inj} {l m : List Value} (h : LR ι l m) : ∀ n, LR ι (l.take n) (m.take n) := by
  induction h with
  | nil => intro n; simp; exact .nil
  | cons hv _ ih => intro n; cases n with
    | zero => exact .nil
    | succ n => exact .cons hv (ih n)
theorem LR.drop {ι : Inj} {l m : List Value} (h : LR ι l m) : ∀ n, LR ι (l.drop n) (m.drop n) := by
  induction h with
  | nil => intro n; simp; exact .nil
  | cons hv t ih => intro n; cases n with
    | zero => exact .cons hv t
    | succ n => exact ih n
theorem VR.aggI {ι : Inj} {l m : List Value} (hs : ∀ x ∈ l, scal x) (h : LR ι l m) : VR ι (.agg ⟨l⟩) (.agg ⟨m⟩) := .agg hs h.length h.get
theorem VR.tupI {ι : Inj} {l m : List Value} (h : LR ι l m) : VR ι (.tuple ⟨l⟩) (.tuple ⟨m⟩) := .tuple h.length h.get
theorem VR.aggE {ι : Inj} {l : List Value} {v : Value} (h : VR ι (.agg ⟨l⟩) v) : (∀ x ∈ l, scal x) ∧ ∃ m, v = .agg ⟨m⟩ ∧ LR ι l m := by
  cases h with
  | agg hs ha hav => exact ⟨hs, _, rfl, LR.of ha hav⟩
theorem VR.tupE {ι : Inj} {l : List Value} {v : Value} (h : VR ι (.tuple ⟨l⟩) v) : ∃ m, v = .tuple ⟨m⟩ ∧ LR ι l m := by
  cases h with
  | tuple ha hav => exact ⟨_, rfl, LR.of ha hav⟩
theorem VR.undef {ι : Inj} : VR ι undef undef := VR.tupI .nil
theorem VR.scal {ι : Inj} {v v' : Value} (h : VR ι v v') (hs : scal v) : Ev.scal v' := by cases h <;> first | trivial | exact hs.elim

theorem VR.plainC {ι : Inj} {v : Value} (h : plainC v = true) : VR ι v v := by
  cases v with
  | bool b => exact .bool b
  | int k n => exact .int k n
  | string b => exact .string b
  | pointer a => cases a with
    | none => exact .ptrN
    | some a => simp [Ev.plainC] at h
  | slice a n c => cases a with
    | none => cases n with
      | zero => cases c with
        | zero => exact .slN
        | succ c => simp [Ev.plainC] at h
      | succ n => simp [Ev.plainC] at h
    | some a => simp [Ev.plainC] at h
  | map r => cases r with
    | none => exact .mapN
    | some r => simp [Ev.plainC] at h
  | nilFunc => exact .nilF
  | nilIface => exact .nilI
  | _ => simp [Ev.plainC] at h
theorem plainC_scal {v : Value} (h : plainC v = true) : scal v := by cases v <;> first | trivial | simp [plainC] at h
theorem LR.plain {ι : Inj} {l : List Value} (h : l.all Ev.plainC = true) : LR ι l l := by
  induction l with
  | nil => exact .nil
  | cons x l ih =>
    simp only [List.all_cons, Bool.and_eq_true] at h
    exact .cons (.plainC h.1) (ih h.2)
theorem VR.plainV {ι : Inj} {v : Value} (h : plainV v = true) : VR ι v v := by
  unfold Ev.plainV at h
  cases v with
  | agg cs => exact .aggI (fun x hx => plainC_scal (List.all_eq_true.1 h x hx)) (.plain h)
  | _ => exact .plainC (by simpa [Value.cells] using h)

theorem vcells_scal {v : Value} (h : scal v) : vcells v = [v] := by cases v <;> first | rfl | exact h.elim
/-- The cells of a value. -/
theorem VR.vcells {ι : Inj} {v v' : Value} (h : VR ι v v') (hs : storable v = true) : LR ι (Ev.vcells v) (Ev.vcells v') ∧ (∀ x ∈ Ev.vcells v, Ev.scal x) := by
  by_cases hv : Ev.scal v
  · rw [vcells_scal hv, vcells_scal (h.scal hv)]
    exact ⟨.cons h .nil, fun x hx => by simp at hx; subst hx; exact hv⟩
  · cases h with
    | agg h1 ha hav => exact ⟨LR.of ha hav, h1⟩
    | tuple ha hav => simp [storable] at hs
    | _ => exact absurd trivial hv

/- The world. -/
def owned : Ob → Bool
  | .cells _ _ .ro | .dead => false
  | _ => true
theorem owned_live {o : Ob} (h : owned o = true) : live o = true := by cases o <;> first | rfl | exact h
/-- Which cells are not frozen. -/
def freeFrom (fr : Nat × Nat) (lo hi : Nat) : Prop := ∀ o, lo ≤ o → o < hi → ¬ (fr.1 ≤ o ∧ o < fr.2)
theorem freeFrom_of {fr : Nat × Nat} {lo hi : Nat} (h : fr.2 ≤ lo) : freeFrom fr lo hi := fun o h1 _ h2 => by omega
/-- What is told beside a row: how many cells an element has, and its type (then what is frozen lies in front). -/
def tyOk (md : Md) (es : Nat) (B : Blk) (T : TypeId) (fr : Nat × Nat) (len : Nat) : Prop := (md.grows = true → B.es = esz es ∧ 0 < esz es) ∧ (ety es = 0 ∨ (ety es = T + 1 ∧ (md = .gr → fr.2 ≤ B.sh) ∧ (md = .fz → fr.2 ≤ B.sh + len)))
theorem esz_tag {T size : Nat} (h : size < 65536) : esz (tag T size) = size := by
  show (65536 * (T + 1) + size) % 65536 = size
  omega
theorem ety_tag {T size : Nat} (h : size < 65536) : ety (tag T size) = T + 1 := by
  show (65536 * (T + 1) + size) / 65536 = T + 1
  omega
theorem tyOk.zero {md : Md} {B : Blk} {T : TypeId} {fr : Nat × Nat} {len : Nat} (h : md.grows = true → False) : tyOk md 0 B T fr len := ⟨fun g => (h g).elim, .inl rfl⟩
def mdOk (md : Md) (B : Blk) (len : Nat) (fr : Nat × Nat) : Prop := match md with
  | .ro => True
  | .ex => B.sh = 0 ∧ len = B.n ∧ fr = (0, 0)
  | .sx => B.sh = 0 ∧ len = B.n ∧ freeFrom fr 0 B.n
  | .gr => freeFrom fr B.sh B.n
  | .fz => freeFrom fr (B.sh + len) B.n
def cellsR (ι : Inj) (cs : List Value) (md : Md) (B : Blk) (cs' : Array Value) (fr : Nat × Nat) : Prop :=
  cs'.size = B.n ∧ B.sh + cs.length ≤ B.n ∧ (∀ (i : Nat) (x : Value), cs[i]? = some x → scal x ∧ ∃ y, cs'[B.sh + i]? = some y ∧ VR ι x y) ∧ mdOk md B cs.length fr
/-- Entries, one by one. -/
inductive ER (ι : Inj) (clk : Nat) : List (Value × Value) → List MapEntry → Prop
  | nil : ER ι clk [] []
  | cons {e : Value × Value} {e' : MapEntry} {l : List (Value × Value)} {m : List MapEntry} (h1 : VR ι e.1 e'.key) (h2 : VR ι e.2 e'.val) (h3 : e'.born < clk) (t : ER ι clk l m) : ER ι clk (e :: l) (e' :: m)
theorem ER.mono {ι κ : Inj} (h : ι.le κ) {c : Nat} {l : List (Value × Value)} {m : List MapEntry} (r : ER ι c l m) : ER κ c l m := by
  induction r with
  | nil => exact .nil
  | cons h1 h2 h3 _ ih => exact .cons (h1.mono h) (h2.mono h) h3 ih
def KA (e f : Value × Value) : Prop := keyEq none e.1 f.1 = some false
/-- Entries of a map, in whatever order; 'born': their stamps. -/
def entsR (ι : Inj) (es : List (Value × Value)) (clk : Nat) (es' : Array MapEntry) : Prop :=
  es.Pairwise KA ∧ (∃ p : List (Value × Value), p.Perm es ∧ ER ι clk p es'.toList) ∧ (es'.toList.map (·.born)).Nodup
def OR (ι : Inj) (o : Ob) (B : Blk) (w : World) : Prop := match o with
  | .cells cs es md => ∃ cs' T fr, w.heap[B.b]? = some (.cells cs' T fr) ∧ cellsR ι cs md B cs' fr ∧ tyOk md es B T fr cs.length
  | .map es _ => ∃ es' clk', w.heap[B.b]? = some (.map es' clk') ∧ entsR ι es clk' es'
  | .iter s pos => B.sh = 0 ∧ w.heap[B.b]? = some (.stringIter s pos)
  | .miter _ _ _ _ => False
  | .loop _ _ _ _ _ _ => False
  | .dead => True

/-- What stands at numbers stands so to a world. 'base': from this block on all is the call's own. -/
structure RelF (ι : Inj) (base : Nat) (g : Nat → Option Ob) (nx : Nat) (w : World) : Prop where
  ob : ∀ a o, g a = some o → live o = true → ∃ B, ι a = some B ∧ OR ι o B w
  sep : ∀ a a' o o' B B', g a = some o → g a' = some o' → a ≠ a' → owned o = true → live o' = true → ι a = some B → ι a' = some B' → B.b ≠ B'.b
  own : ∀ a o B, g a = some o → owned o = true → ι a = some B → base ≤ B.b
  next : ∀ a, nx ≤ a → g a = none ∧ ι a = none
  blk : ∀ a B, ι a = some B → B.b < w.heap.size
  base_le : base ≤ w.heap.size
/-- A state stands so to a world. -/
abbrev Rel (ι : Inj) (base : Nat) (s : St) (w : World) : Prop := RelF ι base s.get s.next w

/-- From one state and world to the next. 'S': which numbers may be new beside those from the counter on. -/
structure ExtF (S : Nat → Prop) (ι : Inj) (base : Nat) (g : Nat → Option Ob) (nx : Nat) (w : World) (κ : Inj) (g' : Nat → Option Ob) (nx' : Nat) (w' : World) : Prop where
  le : ι.le κ
  rel : RelF κ base g' nx' w'
  next : nx ≤ nx'
  gone : ∀ a, a < nx → ¬ S a → g a = none → g' a = none ∧ (ι a = none → κ a = none)
  keep : ∀ b, b < w.heap.size → (∀ a o B, g a = some o → owned o = true → ι a = some B → B.b ≠ b) → w'.heap[b]? = w.heap[b]?
  img : ∀ a o B, g' a = some o → live o = true → κ a = some B → B.b < w.heap.size → ∃ a0 o0 B0, g a0 = some o0 ∧ live o0 = true ∧ (owned o = true → owned o0 = true) ∧ ι a0 = some B0 ∧ B0.b = B.b
  size : w.heap.size ≤ w'.heap.size
  os : w'.os = w.os
  tape : w'.tape = w.tape
  output : w'.output = w.output
abbrev Ext (S : Nat → Prop) (ι : Inj) (base : Nat) (s : St) (w : World) (κ : Inj) (s' : St) (w' : World) : Prop := ExtF S ι base s.get s.next w κ s'.get s'.next w'

theorem Ext.refl {S : Nat → Prop} {ι : Inj} {base : Nat} {s : St} {w : World} (h : Rel ι base s w) : Ext S ι base s w ι s w :=
  ⟨Inj.le_refl _, h, Nat.le_refl _, fun _ _ _ h1 => ⟨h1, id⟩, fun _ _ _ => rfl, fun a o B h1 h2 h3 _ => ⟨a, o, B, h1, h2, fun h => h, h3, rfl⟩, Nat.le_refl _, rfl, rfl, rfl⟩
theorem Ext.trans {S : Nat → Prop} {ι κ μ : Inj} {base : Nat} {s s' s'' : St} {w w' w'' : World} (h : Ext S ι base s w κ s' w') (k : Ext S κ base s' w' μ s'' w'') : Ext S ι base s w μ s'' w'' := by
  refine ⟨Inj.le_trans h.le k.le, k.rel, Nat.le_trans h.next k.next, ?_, ?_, ?_, Nat.le_trans h.size k.size, k.os.trans h.os, k.tape.trans h.tape, k.output.trans h.output⟩
  · intro a ha hS h1
    obtain ⟨g1, g2⟩ := h.gone a ha hS h1
    obtain ⟨g3, g4⟩ := k.gone a (Nat.lt_of_lt_of_le ha h.next) hS g1
    exact ⟨g3, fun h2 => g4 (g2 h2)⟩
  · intro b hb hn
    rw [k.keep b (Nat.lt_of_lt_of_le hb h.size) ?_, h.keep b hb hn]
    intro a o B h1 h2 h3 he
    obtain ⟨a0, o0, B0, g1, _, g2, g3, g4⟩ := h.img a o B h1 (owned_live h2) h3 (by omega)
    exact hn a0 o0 B0 g1 (g2 h2) g3 (by omega)
  · intro a o B h1 h2 h3 hlt
    obtain ⟨a0, o0, B0, g1, g2, g2', g3, g4⟩ := k.img a o B h1 h2 h3 (Nat.lt_of_lt_of_le hlt h.size)
    obtain ⟨a1, o1, B1, f1, f2, f2', f3, f4⟩ := h.img a0 o0 B0 g1 g2 g3 (by omega)
    exact ⟨a1, o1, B1, f1, f2, fun h => f2' (g2' h), f3, by omega⟩
theorem Ext.mono {S S' : Nat → Prop} {ι κ : Inj} {base : Nat} {s s' : St} {w w' : World} (h : Ext S ι base s w κ s' w') (hS : ∀ a, S a → S' a) : Ext S' ι base s w κ s' w' :=
  ⟨h.le, h.rel, h.next, fun a ha hn => h.gone a ha (fun hs => hn (hS a hs)), h.keep, h.img, h.size, h.os, h.tape, h.output⟩
/-- Nothing that was there when the call began has turned. -/
theorem Ext.below {S : Nat → Prop} {ι κ : Inj} {base : Nat} {s s' : St} {w w' : World} (h : Ext S ι base s w κ s' w') (r : Rel ι base s w) : Go.RowKit.Below base w w' :=
  ⟨h.os, h.tape, h.output, h.size, fun k hk => h.keep k (Nat.lt_of_lt_of_le hk r.base_le) fun a o B h1 h2 h3 he => by have := r.own a o B h1 h2 h3; omega⟩

/- What stays. -/
theorem cellsR.mono {ι κ : Inj} (h : ι.le κ) {cs : List Value} {md : Md} {B : Blk} {cs' : Array Value} {fr : Nat × Nat} (r : cellsR ι cs md B cs' fr) : cellsR κ cs md B cs' fr := by
  obtain ⟨h1, h2, h3, h4⟩ := r
  refine ⟨h1, h2, ?_, h4⟩
  intro i x hx
  obtain ⟨g1, y, g2, g3⟩ := h3 i x hx
  exact ⟨g1, y, g2, g3.mono h⟩
theorem entsR.mono {ι κ : Inj} (h : ι.le κ) {es : List (Value × Value)} {clk : Nat} {es' : Array MapEntry} (r : entsR ι es clk es') : entsR κ es clk es' := by
  obtain ⟨h0, ⟨p, h1, h2⟩, h3⟩ := r
  exact ⟨h0, ⟨p, h1, h2.mono h⟩, h3⟩
theorem OR.mono {ι κ : Inj} (h : ι.le κ) {o : Ob} {B : Blk} {w : World} (r : OR ι o B w) : OR κ o B w := by
  cases o with
  | cells cs es md => obtain ⟨cs', T, fr, h1, h2, h3⟩ := r; exact ⟨cs', T, fr, h1, h2.mono h, h3⟩
  | map es c => obtain ⟨es', c', h1, h2⟩ := r; exact ⟨es', c', h1, h2.mono h⟩
  | iter s pos => exact r
  | miter _ _ _ _ => exact r
  | loop _ _ _ _ _ _ => exact r
  | dead => trivial
theorem OR.block {ι : Inj} {o : Ob} {B : Blk} {w w' : World} (r : OR ι o B w) (h : w'.heap[B.b]? = w.heap[B.b]?) : OR ι o B w' := by
  cases o with
  | cells cs es md => obtain ⟨cs', T, fr, h1, h2, h3⟩ := r; exact ⟨cs', T, fr, by rw [h, h1], h2, h3⟩
  | map es c => obtain ⟨es', c', h1, h2⟩ := r; exact ⟨es', c', by rw [h, h1], h2⟩
  | iter s pos => exact ⟨r.1, h.trans r.2⟩
  | miter _ _ _ _ => exact r
  | loop _ _ _ _ _ _ => exact r
  | dead => trivial

@[simp] theorem St.get_set_same (s : St) (i : Nat) (o : Ob) : (s.set i o).get i = some o := Tr.get_set_same _ _ _
theorem St.get_set_ne (s : St) {i j : Nat} (o : Ob) (h : i ≠ j) : (s.set i o).get j = s.get j := Tr.get_set_ne _ _ h
theorem St.get_set (s : St) (i j : Nat) (o : Ob) : (s.set i o).get j = if i = j then some o else s.get j := Tr.get_set _ _ _ _
@[simp] theorem St.get_bump (s : St) (n i : Nat) : (s.bump n).get i = s.get i := rfl
@[simp] theorem St.next_set (s : St) (i : Nat) (o : Ob) : (s.set i o).next = s.next := rfl
@[simp] theorem St.next_bump (s : St) (n : Nat) : (s.bump n).next = s.next + n := rfl
theorem St.skip_eq (s : St) (n : Nat) : s.skip n = s.bump n := by cases n <;> rfl

/- Steps. -/
def Inj.put (ι : Inj) (a : Nat) (B : Blk) : Inj := fun i => if i = a then some B else ι i
theorem Inj.put_same (ι : Inj) (a : Nat) (B : Blk) : ι.put a B a = some B := if_pos rfl
theorem Inj.put_ne (ι : Inj) {a i : Nat} (B : Blk) (h : i ≠ a) : ι.put a B i = ι i := if_neg h
theorem Inj.le_put {ι : Inj} {a : Nat} (B : Blk) (h : ι a = none) : ι.le (ι.put a B) := by
  intro i C hi
  rw [Inj.put_ne _ _ (by rintro rfl; rw [h] at hi; cases hi), hi]

/-- A new object in a new block, at a number that was kept for it. -/
theorem Ext.new {ι : Inj} {base : Nat} {s : St} {w w' : World} (r : Rel ι base s w) (id : Nat) (o : Ob) (obj : Obj) (n es : Nat)
    (hid : id < s.next) (hs : s.get id = none) (hi : ι id = none) (hw : w'.heap = w.heap.push obj) (h1 : w'.os = w.os) (h2 : w'.tape = w.tape) (h3 : w'.output = w.output)
    (hl : live o = true) (hr : OR (ι.put id ⟨w.heap.size, 0, n, es⟩) o ⟨w.heap.size, 0, n, es⟩ w') :
    Ext (· = id) ι base s w (ι.put id ⟨w.heap.size, 0, n, es⟩) (s.set id o) w' := by
  have hsz : w'.heap.size = w.heap.size + 1 := by rw [hw, Array.size_push]
  have hold : ∀ b, b < w.heap.size → w'.heap[b]? = w.heap[b]? := by
    intro b hb; rw [hw, Array.getElem?_push, if_neg (by omega)]
  have hle : ι.le (ι.put id ⟨w.heap.size, 0, n, es⟩) := Inj.le_put _ hi
  refine ⟨hle, ⟨?_, ?_, ?_, ?_, ?_, ?_⟩, Nat.le_refl _, ?_, fun b hb _ => hold b hb, ?_, by omega, h1, h2, h3⟩
  · intro a o' ha hlo
    rw [St.get_set] at ha
    by_cases h : id = a
    · subst h; rw [if_pos rfl] at ha; cases ha; exact ⟨_, Inj.put_same _ _ _, hr⟩
    · rw [if_neg h] at ha
      obtain ⟨B, g1, g2⟩ := r.ob a o' ha hlo
      exact ⟨B, hle _ _ g1, (g2.mono hle).block (hold _ (r.blk a B g1))⟩
  · intro a a' o1 o2 B B' ha ha' hne ho hl' hB hB'
    rw [St.get_set] at ha ha'
    by_cases h : id = a
    · subst h
      rw [if_neg hne] at ha'
      rw [Inj.put_same] at hB; cases hB
      rw [Inj.put_ne _ _ (Ne.symm hne)] at hB'
      have := r.blk a' B' hB'
      dsimp only; omega
    · rw [if_neg h] at ha
      rw [Inj.put_ne _ _ (Ne.symm h)] at hB
      by_cases h' : id = a'
      · subst h'
        rw [Inj.put_same] at hB'; cases hB'
        have := r.blk a B hB
        dsimp only; omega
      · rw [if_neg h'] at ha'
        rw [Inj.put_ne _ _ (Ne.symm h')] at hB'
        exact r.sep a a' o1 o2 B B' ha ha' hne ho hl' hB hB'
  · intro a o' B ha ho hB
    rw [St.get_set] at ha
    by_cases h : id = a
    · subst h; rw [Inj.put_same] at hB; cases hB; exact r.base_le
    · rw [if_neg h] at ha; rw [Inj.put_ne _ _ (Ne.symm h)] at hB; exact r.own a o' B ha ho hB
  · intro a ha
    rw [St.next_set] at ha
    have hne : a ≠ id := by omega
    rw [St.get_set_ne _ _ (Ne.symm hne), Inj.put_ne _ _ hne]
    exact r.next a ha
  · intro a B hB
    by_cases h : a = id
    · subst h; rw [Inj.put_same] at hB; cases hB; dsimp only; omega
    · rw [Inj.put_ne _ _ h] at hB; have := r.blk a B hB; omega
  · have := r.base_le; omega
  · intro a _ hS g1
    rw [St.get_set_ne _ _ (fun e => hS e.symm), Inj.put_ne _ _ hS]
    exact ⟨g1, fun h => h⟩
  · intro a o' B ha ho hB hlt
    rw [St.get_set] at ha
    by_cases h : id = a
    · subst h; rw [Inj.put_same] at hB; cases hB; simp at hlt
    · rw [if_neg h] at ha; rw [Inj.put_ne _ _ (Ne.symm h)] at hB; exact ⟨a, o', B, ha, ho, fun h => h, hB, rfl⟩

/-- An object of the call's own becomes another one, in its block. -/
theorem Ext.write {S : Nat → Prop} {ι : Inj} {base : Nat} {s : St} {w w' : World} (r : Rel ι base s w) (a : Nat) (o o' : Ob) (B : Blk)
    (hs : s.get a = some o) (ho : owned o = true) (hB : ι a = some B) (hsz : w'.heap.size = w.heap.size) (hold : ∀ b, b ≠ B.b → w'.heap[b]? = w.heap[b]?)
    (h1 : w'.os = w.os) (h2 : w'.tape = w.tape) (h3 : w'.output = w.output) (hr : OR ι o' B w') : Ext S ι base s w ι (s.set a o') w' := by
  have hlt : a < s.next := by
    rcases Nat.lt_or_ge a s.next with h | h
    · exact h
    · rw [(r.next a h).1] at hs; cases hs
  have back : ∀ a' o1, (s.set a o').get a' = some o1 → live o1 = true → ∃ o2, s.get a' = some o2 ∧ live o2 = true ∧ (owned o1 = true → owned o2 = true) := by
    intro a' o1 ha' hl
    rw [St.get_set] at ha'
    by_cases h : a = a'
    · subst h; rw [if_pos rfl] at ha'; cases ha'
      exact ⟨o, hs, owned_live ho, fun _ => ho⟩
    · rw [if_neg h] at ha'; exact ⟨o1, ha', hl, fun h => h⟩
  refine ⟨Inj.le_refl _, ⟨?_, ?_, ?_, ?_, ?_, ?_⟩, Nat.le_refl _, ?_, ?_, ?_, by omega, h1, h2, h3⟩
  · intro a' o1 ha' hlo
    have ha2 := ha'
    rw [St.get_set] at ha'
    by_cases h : a = a'
    · subst h; rw [if_pos rfl] at ha'; cases ha'; exact ⟨B, hB, hr⟩
    · rw [if_neg h] at ha'
      obtain ⟨C, g1, g2⟩ := r.ob a' o1 ha' hlo
      exact ⟨C, g1, g2.block (hold _ (fun he => r.sep a a' o o1 B C hs ha' h ho hlo hB g1 he.symm))⟩
  · intro x y o1 o2 Bx By hx hy hne ho1 hl2 hBx hBy
    obtain ⟨p1, f1, _, f3⟩ := back x o1 hx (owned_live ho1)
    obtain ⟨p2, e1, e2, _⟩ := back y o2 hy hl2
    exact r.sep x y p1 p2 Bx By f1 e1 hne (f3 ho1) e2 hBx hBy
  · intro x o1 Bx hx ho1 hBx
    obtain ⟨p1, f1, _, f3⟩ := back x o1 hx (owned_live ho1)
    exact r.own x p1 Bx f1 (f3 ho1) hBx
  · intro x hx
    rw [St.next_set] at hx
    rw [St.get_set_ne _ _ (by omega)]
    exact r.next x hx
  · intro x C hC; have := r.blk x C hC; omega
  · have := r.base_le; omega
  · intro x _ _ g1
    rw [St.get_set_ne _ _ (by rintro rfl; rw [hs] at g1; cases g1)]
    exact ⟨g1, id⟩
  · intro b _ hn
    exact hold b (fun he => hn a o B hs ho hB he.symm)
  · intro x o1 C hx ho1 hC _
    obtain ⟨p1, f1, f2, f3⟩ := back x o1 hx ho1
    exact ⟨x, p1, C, f1, f2, f3, hC, rfl⟩

/-- The counter goes on: the numbers are kept. -/
theorem Ext.bump {S : Nat → Prop} {ι : Inj} {base : Nat} {s : St} {w : World} (r : Rel ι base s w) (n : Nat) : Ext S ι base s w ι (s.bump n) w :=
  ⟨Inj.le_refl _, ⟨r.ob, r.sep, r.own, fun a ha => r.next a (by simp at ha; omega), r.blk, r.base_le⟩, by simp, fun _ _ _ h1 => ⟨h1, id⟩, fun _ _ _ => rfl,
    fun a o B h1 h2 h3 _ => ⟨a, o, B, h1, h2, fun h => h, h3, rfl⟩, Nat.le_refl _, rfl, rfl, rfl⟩
/-- A draw. -/
theorem Ext.drew {S : Nat → Prop} {ι : Inj} {base : Nat} {s : St} {w : World} (r : Rel ι base s w) (d : Nat) : Ext S ι base s w ι s { w with drawn := d } :=
  ⟨Inj.le_refl _, ⟨fun a o h hl => let ⟨B, g1, g2⟩ := r.ob a o h hl; ⟨B, g1, g2.block rfl⟩, r.sep, r.own, r.next, r.blk, r.base_le⟩, Nat.le_refl _, fun _ _ _ h1 => ⟨h1, id⟩, fun _ _ _ => rfl,
    fun a o B h1 h2 h3 _ => ⟨a, o, B, h1, h2, fun h => h, h3, rfl⟩, Nat.le_refl _, rfl, rfl, rfl⟩
/-- A new number, the next one. -/
theorem Ext.atNext {S : Nat → Prop} {ι κ : Inj} {base : Nat} {s s' : St} {w w' : World} (h : Ext (· = s.next) ι base (s.bump 1) w κ s' w') : Ext S ι base s w κ s' w' :=
  ⟨h.le, h.rel, by have := h.next; simp at this; omega, fun a ha _ g1 => h.gone a (by simp; omega) (by omega) g1, h.keep, h.img, h.size, h.os, h.tape, h.output⟩
/-- An object of the call's own goes over to the next number, and stays in its block. -/
theorem Ext.move {S : Nat → Prop} {ι : Inj} {base : Nat} {s : St} {w w' : World} (r : Rel ι base s w) (a : Nat) (o o' : Ob) (B B' : Blk)
    (hs : s.get a = some o) (ho : owned o = true) (ho' : owned o' = true) (hB : ι a = some B) (hb : B'.b = B.b) (hsz : w'.heap.size = w.heap.size) (hold : ∀ b, b ≠ B.b → w'.heap[b]? = w.heap[b]?)
    (h1 : w'.os = w.os) (h2 : w'.tape = w.tape) (h3 : w'.output = w.output) (hr : OR (ι.put s.next B') o' B' w') : Ext S ι base s w (ι.put s.next B') (((s.set a .dead).set s.next o').bump 1) w' := by
  obtain ⟨n1, n2⟩ := r.next s.next (Nat.le_refl _)
  have hle : ι.le (ι.put s.next B') := Inj.le_put _ n2
  have hlt : a < s.next := by
    rcases Nat.lt_or_ge a s.next with h | h
    · exact h
    · rw [(r.next a h).1] at hs; cases hs
  -- what stands at a number, and where it lies
  have look : ∀ x o1, (((s.set a .dead).set s.next o').bump 1).get x = some o1 → live o1 = true → (x = s.next ∧ o1 = o') ∨ (x ≠ s.next ∧ x ≠ a ∧ s.get x = some o1) := by
    intro x o1 hx hl
    rw [St.get_bump, St.get_set] at hx
    by_cases h : s.next = x
    · subst h; rw [if_pos rfl] at hx; cases hx; exact .inl ⟨rfl, rfl⟩
    · rw [if_neg h, St.get_set] at hx
      by_cases h' : a = x
      · subst h'; rw [if_pos rfl] at hx; cases hx; cases hl
      · rw [if_neg h'] at hx; exact .inr ⟨fun e => h e.symm, fun e => h' e.symm, hx⟩
  have apart : ∀ x o1 C, x ≠ a → s.get x = some o1 → live o1 = true → ι x = some C → C.b ≠ B.b := fun x o1 C hne hx hl hC => (r.sep a x o o1 B C hs hx (Ne.symm hne) ho hl hB hC).symm
  refine ⟨hle, ⟨?_, ?_, ?_, ?_, ?_, ?_⟩, by simp, ?_, ?_, ?_, by omega, h1, h2, h3⟩
  · intro x o1 hx hl
    rcases look x o1 hx hl with ⟨rfl, rfl⟩ | ⟨e1, e2, e3⟩
    · exact ⟨B', Inj.put_same _ _ _, hr⟩
    · obtain ⟨C, g1, g2⟩ := r.ob x o1 e3 hl
      exact ⟨C, hle _ _ g1, (g2.mono hle).block (hold _ (apart x o1 C e2 e3 hl g1))⟩
  · intro x y o1 o2 Bx By hx hy hne ho1 hl2 hBx hBy
    rcases look x o1 hx (owned_live ho1) with ⟨rfl, rfl⟩ | ⟨e1, e2, e3⟩ <;> rcases look y o2 hy hl2 with ⟨rfl, rfl⟩ | ⟨f1, f2, f3⟩
    · exact absurd rfl hne
    · rw [Inj.put_same] at hBx; cases hBx
      rw [Inj.put_ne _ _ f1] at hBy
      rw [hb]; exact (apart y o2 By f2 f3 hl2 hBy).symm
    · rw [Inj.put_same] at hBy; cases hBy
      rw [Inj.put_ne _ _ e1] at hBx
      rw [hb]; exact apart x o1 Bx e2 e3 (owned_live ho1) hBx
    · rw [Inj.put_ne _ _ e1] at hBx
      rw [Inj.put_ne _ _ f1] at hBy
      exact r.sep x y o1 o2 Bx By e3 f3 hne ho1 hl2 hBx hBy
  · intro x o1 Bx hx ho1 hBx
    rcases look x o1 hx (owned_live ho1) with ⟨rfl, rfl⟩ | ⟨e1, e2, e3⟩
    · rw [Inj.put_same] at hBx; cases hBx
      rw [hb]; exact r.own a o B hs ho hB
    · rw [Inj.put_ne _ _ e1] at hBx; exact r.own x o1 Bx e3 ho1 hBx
  · intro x hx
    simp only [St.next_bump, St.next_set] at hx
    rw [St.get_bump, St.get_set_ne _ _ (by omega), St.get_set_ne _ _ (by omega), Inj.put_ne _ _ (by omega)]
    exact r.next x (by omega)
  · intro x C hC
    by_cases h : x = s.next
    · subst h; rw [Inj.put_same] at hC; cases hC; rw [hb, hsz]; exact r.blk a B hB
    · rw [Inj.put_ne _ _ h] at hC; have := r.blk x C hC; omega
  · have := r.base_le; omega
  · intro x hx _ g1
    rw [St.get_bump, St.get_set_ne _ _ (by omega), St.get_set_ne _ _ (by rintro rfl; rw [hs] at g1; cases g1), Inj.put_ne _ _ (by omega)]
    exact ⟨g1, id⟩
  · intro b _ hn
    exact hold b (fun he => hn a o B hs ho hB he.symm)
  · intro x o1 C hx ho1 hC _
    rcases look x o1 hx ho1 with ⟨rfl, rfl⟩ | ⟨e1, e2, e3⟩
    · rw [Inj.put_same] at hC; cases hC
      exact ⟨a, o, B, hs, owned_live ho, fun _ => ho, hB, hb.symm⟩
    · rw [Inj.put_ne _ _ e1] at hC; exact ⟨x, o1, C, e3, ho1, fun h => h, hC, rfl⟩
/-- An object of the call's own is let go, and a new one made in a new block. -/
theorem Ext.drop {S : Nat → Prop} {ι : Inj} {base : Nat} {s : St} {w : World} (r : Rel ι base s w) (a : Nat) (o : Ob) (B : Blk) (hs : s.get a = some o) (ho : owned o = true) (hB : ι a = some B) : Ext S ι base s w ι (s.set a .dead) w :=
  Ext.write r a o .dead B hs ho hB rfl (fun _ _ => rfl) rfl rfl rfl trivial
/-- The frame: what a step does not know stays as it is. -/
theorem Ext.frame {S : Nat → Prop} {ι κ : Inj} {base : Nat} {s s' : St} {w w' : World} {U : Nat → Option Ob} {nx : Nat} (r : RelF ι base U nx w) (hsub : ∀ a o, s.get a = some o → U a = some o) (hnx : nx = s.next)
    (h : Ext S ι base s w κ s' w') (hS : ∀ a, S a → U a = none) {U' : Nat → Option Ob} (h1 : ∀ a o, s'.get a = some o → U' a = some o) (h2 : ∀ a, s'.get a = none → s.get a = none → U' a = U a) (h3 : ∀ a, s'.get a = none → s.get a ≠ none → U' a = none) : RelF κ base U' s'.next w' := by
  -- what U' has: from the new state, or from outside
  have look : ∀ a o, U' a = some o → s'.get a = some o ∨ (s'.get a = none ∧ s.get a = none ∧ U a = some o ∧ a < s.next) := by
    intro a o ha
    cases e : s'.get a with
    | some o' => left; rw [h1 a o' e] at ha; exact ha
    | none =>
      right
      cases e2 : s.get a with
      | some o2 => rw [h3 a e (by rw [e2]; simp)] at ha; cases ha
      | none =>
        rw [h2 a e e2] at ha
        refine ⟨rfl, rfl, ha, ?_⟩
        rcases Nat.lt_or_ge a s.next with hl | hl
        · exact hl
        · rw [(r.next a (by omega)).1] at ha; cases ha
  -- the blocks of what is outside
  have kept : ∀ a o B, s.get a = none → U a = some o → live o = true → ι a = some B → w'.heap[B.b]? = w.heap[B.b]? := by
    intro a o B h0 ha hl hB
    refine h.keep B.b (r.blk a B hB) fun a1 o1 B1 g1 g2 g3 he => ?_
    exact r.sep a1 a o1 o B1 B (hsub a1 o1 g1) ha (by rintro rfl; rw [g1] at h0; cases h0) g2 hl g3 hB he
  have apart : ∀ a o B a' o' B', s'.get a = some o → live o = true → κ a = some B → s.get a' = none → U a' = some o' → live o' = true → ι a' = some B' → (owned o = true ∨ owned o' = true) → B.b ≠ B'.b := by
    intro a o B a' o' B' g1 g2 g3 k0 k1 k2 k3 how he
    have hb := r.blk a' B' k3
    obtain ⟨a0, o0, B0, f1, f2, f2', f3, f4⟩ := h.img a o B g1 g2 g3 (by omega)
    have hne : a0 ≠ a' := by rintro rfl; rw [f1] at k0; cases k0
    rcases how with ho | ho
    · exact r.sep a0 a' o0 o' B0 B' (hsub _ _ f1) k1 hne (f2' ho) k2 f3 k3 (by omega)
    · exact r.sep a' a0 o' o0 B' B0 k1 (hsub _ _ f1) (Ne.symm hne) ho f2 k3 f3 (by omega)
  refine ⟨?_, ?_, ?_, ?_, h.rel.blk, h.rel.base_le⟩
  · intro a o ha hl
    rcases look a o ha with g | ⟨_, g2, g3, _⟩
    · exact h.rel.ob a o g hl
    · obtain ⟨B, k1, k2⟩ := r.ob a o g3 hl
      exact ⟨B, h.le _ _ k1, (k2.mono h.le).block (kept a o B g2 g3 hl k1)⟩
  · intro a a' o o' B B' ha ha' hne ho hl hB hB'
    rcases look a o ha with g | ⟨_, g2, g3, _⟩ <;> rcases look a' o' ha' with g' | ⟨_, g2', g3', _⟩
    · exact h.rel.sep a a' o o' B B' g g' hne ho hl hB hB'
    · obtain ⟨C, k1, _⟩ := r.ob a' o' g3' hl
      rw [h.le _ _ k1] at hB'; cases hB'
      exact apart a o B a' o' _ g (owned_live ho) hB g2' g3' hl k1 (.inl ho)
    · obtain ⟨C, k1, _⟩ := r.ob a o g3 (owned_live ho)
      rw [h.le _ _ k1] at hB; cases hB
      exact (apart a' o' B' a o _ g' hl hB' g2 g3 (owned_live ho) k1 (.inr ho)).symm
    · obtain ⟨C, k1, _⟩ := r.ob a o g3 (owned_live ho)
      obtain ⟨C', k1', _⟩ := r.ob a' o' g3' hl
      rw [h.le _ _ k1] at hB; cases hB
      rw [h.le _ _ k1'] at hB'; cases hB'
      exact r.sep a a' o o' _ _ g3 g3' hne ho hl k1 k1'
  · intro a o B ha ho hB
    rcases look a o ha with g | ⟨_, g2, g3, _⟩
    · exact h.rel.own a o B g ho hB
    · obtain ⟨C, k1, _⟩ := r.ob a o g3 (owned_live ho)
      rw [h.le _ _ k1] at hB; cases hB
      exact r.own a o _ g3 ho k1
  · intro a ha
    obtain ⟨g1, g2⟩ := h.rel.next a ha
    refine ⟨?_, g2⟩
    cases e : U' a with
    | none => rfl
    | some o =>
      rcases look a o e with g | ⟨_, _, _, g4⟩
      · rw [g1] at g; cases g
      · have := h.next; omega
theorem ExtF.trans {S : Nat → Prop} {ι κ μ : Inj} {base : Nat} {g g' g'' : Nat → Option Ob} {nx nx' nx'' : Nat} {w w' w'' : World} (h : ExtF S ι base g nx w κ g' nx' w') (k : ExtF S κ base g' nx' w' μ g'' nx'' w'') : ExtF S ι base g nx w μ g'' nx'' w'' := by
  refine ⟨Inj.le_trans h.le k.le, k.rel, Nat.le_trans h.next k.next, ?_, ?_, ?_, Nat.le_trans h.size k.size, k.os.trans h.os, k.tape.trans h.tape, k.output.trans h.output⟩
  · intro a ha hS h1
    obtain ⟨g1, g2⟩ := h.gone a ha hS h1
    obtain ⟨g3, g4⟩ := k.gone a (Nat.lt_of_lt_of_le ha h.next) hS g1
    exact ⟨g3, fun h2 => g4 (g2 h2)⟩
  · intro b hb hn
    rw [k.keep b (Nat.lt_of_lt_of_le hb h.size) ?_, h.keep b hb hn]
    intro a o B h1 h2 h3 he
    obtain ⟨a0, o0, B0, g1, _, g2, g3, g4⟩ := h.img a o B h1 (owned_live h2) h3 (by omega)
    exact hn a0 o0 B0 g1 (g2 h2) g3 (by omega)
  · intro a o B h1 h2 h3 hlt
    obtain ⟨a0, o0, B0, g1, g2, g2', g3, g4⟩ := k.img a o B h1 h2 h3 (Nat.lt_of_lt_of_le hlt h.size)
    obtain ⟨a1, o1, B1, f1, f2, f2', f3, f4⟩ := h.img a0 o0 B0 g1 g2 g3 (by omega)
    exact ⟨a1, o1, B1, f1, f2, fun h => f2' (g2' h), f3, by omega⟩
/-- A step of a part is a step of the whole. -/
theorem Ext.lift {S : Nat → Prop} {ι κ : Inj} {base : Nat} {s s' : St} {w w' : World} {U : Nat → Option Ob} {nx : Nat} (r : RelF ι base U nx w) (hsub : ∀ a o, s.get a = some o → U a = some o) (hnx : nx = s.next)
    (h : Ext S ι base s w κ s' w') (hS : ∀ a, S a → U a = none) {U' : Nat → Option Ob} (h1 : ∀ a o, s'.get a = some o → U' a = some o) (h2 : ∀ a, s'.get a = none → s.get a = none → U' a = U a) (h3 : ∀ a, s'.get a = none → s.get a ≠ none → U' a = none) :
    ExtF S ι base U nx w κ U' s'.next w' := by
  have hsn : ∀ a, U a = none → s.get a = none := by
    intro a ha
    cases e : s.get a with
    | none => rfl
    | some o => rw [hsub a o e] at ha; cases ha
  refine ⟨h.le, Ext.frame r hsub hnx h hS h1 h2 h3, by have := h.next; omega, ?_, ?_, ?_, h.size, h.os, h.tape, h.output⟩
  · intro a ha hs hU
    obtain ⟨g1, g2⟩ := h.gone a (by omega) hs (hsn a hU)
    exact ⟨by rw [h2 a g1 (hsn a hU)]; exact hU, g2⟩
  · intro b hb hn
    exact h.keep b hb fun a o B k1 k2 k3 => hn a o B (hsub a o k1) k2 k3
  · intro a o B ha hl hB hlt
    cases e : s'.get a with
    | some o' =>
      rw [h1 a o' e] at ha; cases ha
      obtain ⟨a0, o0, B0, f1, f2, f3, f4, f5⟩ := h.img a o B e hl hB hlt
      exact ⟨a0, o0, B0, hsub _ _ f1, f2, f3, f4, f5⟩
    | none =>
      cases e2 : s.get a with
      | some o2 => rw [h3 a e (by rw [e2]; simp)] at ha; cases ha
      | none =>
        rw [h2 a e e2] at ha
        obtain ⟨C, k1, _⟩ := r.ob a o ha hl
        rw [h.le _ _ k1] at hB; cases hB
        exact ⟨a, o, _, ha, hl, fun h => h, k1, rfl⟩
/-- A part of what is known. -/
theorem RelF.sub {ι : Inj} {base : Nat} {s : St} {w : World} {U : Nat → Option Ob} {nx : Nat} (r : RelF ι base U nx w) (hsub : ∀ a o, s.get a = some o → U a = some o) (hnx : nx = s.next) : Rel ι base s w := by
  refine ⟨fun a o h hl => r.ob a o (hsub a o h) hl, fun a a' o o' B B' h h' => r.sep a a' o o' B B' (hsub _ _ h) (hsub _ _ h'), fun a o B h => r.own a o B (hsub _ _ h), fun a ha => ?_, r.blk, r.base_le⟩
  obtain ⟨g1, g2⟩ := r.next a (by omega)
  refine ⟨?_, g2⟩
  cases e : s.get a with
  | none => rfl
  | some o => rw [hsub a o e] at g1; cases g1
end Go.Ev
