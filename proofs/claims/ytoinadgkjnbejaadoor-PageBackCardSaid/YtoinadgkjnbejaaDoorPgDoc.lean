/-
  Documents in rows.
-/
import Derived.Test.YtoinadgkjnbejaaDoorEvGlob
import Derived.Test.YtoinadgkjnbejaaDoorEvPart2

import Derived.Test.YtoinadgkjnbejaaDoorPgPure3
set_option linter.unusedVariables false
set_option linter.unusedSimpArgs false
namespace Go.Ev
noncomputable section
open Go.Pg
theorem str_lit (l : List UInt8) : Value.string ⟨⟨l⟩⟩ = strOf l := rfl
theorem wantB_undef (x : Bool) : wantB x (some undef) = false := rfl
theorem simq : type_of% (And.intro @sims (And.intro @str_lit (And.intro @wantB_undef (And.intro @List.cons_append.{0} @List.nil_append.{0})))) := And.intro @sims (And.intro @str_lit (And.intro @wantB_undef (And.intro @List.cons_append.{0} @List.nil_append.{0})))
def Texts (s : St) (hi : Nat) (v : Value) (l : List Ln) : Prop := Sl s hi 1 v (l.map strOf)
def Lists (s : St) (hi : Nat) (v : Value) (ls : List (List Ln)) : Prop := ∃ vs : List Value, Sl s hi 1 v vs ∧ vs.length = ls.length ∧ ∀ (i : Nat) (x : Value) (l : List Ln), vs[i]? = some x → ls[i]? = some l → Texts s hi x l
def DocV (s : St) (hi : Nat) (cs : List Value) (d : Doc) : Prop := ∃ h p g t, cs = [strOf d.title, h, p, g, t] ∧ Texts s hi h d.header ∧ Texts s hi p d.prologue ∧ Lists s hi g d.pages ∧ Texts s hi t d.trailer
section
variable {s t : St} {lo hi hi' : Nat} {v : Value} {l : List Ln} {ls : List (List Ln)} {cs : List Value} {d : Doc}
theorem Texts.low (h : Texts s hi v l) (k : Low lo s t) (hh : hi ≤ lo) : Texts t hi v l := Sl.low h k hh
theorem Texts.wide (h : Texts s hi v l) (hh : hi ≤ hi') : Texts s hi' v l := Sl.wide h hh
theorem Texts.nil : Texts s hi (.slice none 0 0) [] := Sl.nil
theorem Lists.low (h : Lists s hi v ls) (k : Low lo s t) (hh : hi ≤ lo) : Lists t hi v ls :=
  let ⟨vs, h1, h2, h3⟩ := h; ⟨vs, h1.low k hh, h2, fun i x l hx hl => (h3 i x l hx hl).low k hh⟩
theorem Lists.wide (h : Lists s hi v ls) (hh : hi ≤ hi') : Lists s hi' v ls :=
  let ⟨vs, h1, h2, h3⟩ := h; ⟨vs, h1.wide hh, h2, fun i x l hx hl => (h3 i x l hx hl).wide hh⟩
theorem Lists.nil : Lists s hi (.slice none 0 0) [] := ⟨[], Sl.nil, rfl, by intro i x l h; simp at h⟩
theorem DocV.low (h : DocV s hi cs d) (k : Low lo s t) (hh : hi ≤ lo) : DocV t hi cs d :=
  let ⟨a, b, c, e, h0, h1, h2, h3, h4⟩ := h; ⟨a, b, c, e, h0, h1.low k hh, h2.low k hh, h3.low k hh, h4.low k hh⟩
theorem DocV.wide (h : DocV s hi cs d) (hh : hi ≤ hi') : DocV s hi' cs d :=
  let ⟨a, b, c, e, h0, h1, h2, h3, h4⟩ := h; ⟨a, b, c, e, h0, h1.wide hh, h2.wide hh, h3.wide hh, h4.wide hh⟩
theorem Texts.next (h : Texts s s.next v l) (k : Low s.next s t) : Texts t t.next v l := (h.low k (Nat.le_refl _)).wide k.2.1
theorem Lists.next (h : Lists s s.next v ls) (k : Low s.next s t) : Lists t t.next v ls := (h.low k (Nat.le_refl _)).wide k.2.1
theorem DocV.next (h : DocV s s.next cs d) (k : Low s.next s t) : DocV t t.next cs d := (h.low k (Nat.le_refl _)).wide k.2.1
end
def MTexts (s : St) (lo hi : Nat) (v : Value) (l : List Ln) : Prop := Mid s lo hi 1 v (l.map strOf)
def MLists (s : St) (lo hi : Nat) (v : Value) (ls : List (List Ln)) : Prop := ∃ vs : List Value, Mid s lo hi 1 v vs ∧ vs.length = ls.length ∧ ∀ (i : Nat) (x : Value) (l : List Ln), vs[i]? = some x → ls[i]? = some l → MTexts s lo hi x l
def DocM (s : St) (lo hi : Nat) (cs : List Value) (d : Doc) : Prop := ∃ h p g t, cs = [strOf d.title, h, p, g, t] ∧ MTexts s lo hi h d.header ∧ MTexts s lo hi p d.prologue ∧ MLists s lo hi g d.pages ∧ MTexts s lo hi t d.trailer
section
variable {s t : St} {lo lo' hi hi' a : Nat} {v : Value} {l : List Ln} {ls : List (List Ln)} {cs : List Value} {d : Doc}
theorem MTexts.texts (h : MTexts s lo hi v l) : Texts s hi v l := h.1
theorem MTexts.to (h : MTexts s lo hi v l) (hl : lo' ≤ lo) (hh : hi ≤ hi') : MTexts s lo' hi' v l := (Mid.wide h hh).weak hl
theorem MTexts.but (h : MTexts s lo hi v l) (k : But a s t) (hh : hi ≤ s.next) (ha : a < lo ∨ hi ≤ a) : MTexts t lo hi v l := Mid.but h k hh ha
theorem MTexts.low (h : MTexts s lo hi v l) (k : Low lo' s t) (hh : hi ≤ lo') : MTexts t lo hi v l := Mid.low h k hh
theorem MLists.to (h : MLists s lo hi v ls) (hl : lo' ≤ lo) (hh : hi ≤ hi') : MLists s lo' hi' v ls :=
  let ⟨vs, h1, h2, h3⟩ := h; ⟨vs, (h1.wide hh).weak hl, h2, fun i x l hx hl' => (h3 i x l hx hl').to hl hh⟩
theorem MLists.but (h : MLists s lo hi v ls) (k : But a s t) (hh : hi ≤ s.next) (ha : a < lo ∨ hi ≤ a) : MLists t lo hi v ls :=
  let ⟨vs, h1, h2, h3⟩ := h; ⟨vs, h1.but k hh ha, h2, fun i x l hx hl => (h3 i x l hx hl).but k hh ha⟩
theorem MLists.low (h : MLists s lo hi v ls) (k : Low lo' s t) (hh : hi ≤ lo') : MLists t lo hi v ls :=
  let ⟨vs, h1, h2, h3⟩ := h; ⟨vs, h1.low k hh, h2, fun i x l hx hl => (h3 i x l hx hl).low k hh⟩
theorem MLists.lists (h : MLists s lo hi v ls) : Lists s hi v ls :=
  let ⟨vs, h1, h2, h3⟩ := h; ⟨vs, h1.1, h2, fun i x l hx hl => (h3 i x l hx hl).1⟩
theorem DocM.to (h : DocM s lo hi cs d) (hl : lo' ≤ lo) (hh : hi ≤ hi') : DocM s lo' hi' cs d :=
  let ⟨a, b, c, e, h0, h1, h2, h3, h4⟩ := h; ⟨a, b, c, e, h0, h1.to hl hh, h2.to hl hh, h3.to hl hh, h4.to hl hh⟩
theorem DocM.but (h : DocM s lo hi cs d) (k : But a s t) (hh : hi ≤ s.next) (ha : a < lo ∨ hi ≤ a) : DocM t lo hi cs d :=
  let ⟨a, b, c, e, h0, h1, h2, h3, h4⟩ := h; ⟨a, b, c, e, h0, h1.but k hh ha, h2.but k hh ha, h3.but k hh ha, h4.but k hh ha⟩
theorem DocM.low (h : DocM s lo hi cs d) (k : Low lo' s t) (hh : hi ≤ lo') : DocM t lo hi cs d :=
  let ⟨a, b, c, e, h0, h1, h2, h3, h4⟩ := h; ⟨a, b, c, e, h0, h1.low k hh, h2.low k hh, h3.low k hh, h4.low k hh⟩
theorem DocM.docV (h : DocM s lo hi cs d) : DocV s hi cs d :=
  let ⟨a, b, c, e, h0, h1, h2, h3, h4⟩ := h; ⟨a, b, c, e, h0, h1.1, h2.1, h3.lists, h4.1⟩
theorem DocM.len (h : DocM s lo hi cs d) : cs.length = 5 := by
  obtain ⟨a, b, c, e, rfl, _⟩ := h; rfl
end
def noDoc : Doc := ⟨[], [], [], [], []⟩
def noCells : List Value := [strOf [], .slice none 0 0, .slice none 0 0, .slice none 0 0, .slice none 0 0]
theorem noDocM (s : St) (lo hi : Nat) : DocM s lo hi noCells noDoc := ⟨_, _, _, _, rfl, Mid.nil _ _ _ _, Mid.nil _ _ _ _, ⟨[], Mid.nil _ _ _ _, rfl, by intro i x l h; simp at h⟩, Mid.nil _ _ _ _⟩
def docOf (l : Ln) : Doc := (docR l).getD noDoc
def errOf (l : Ln) : Int := if (docR l).isSome then 0 else 3
end
end Go.Ev
