/-
  The document's parser: its pages.
-/
import Derived.Test.YtoinadgkjnbejaaDoorPgRefLines
set_option linter.unusedVariables false
set_option linter.unusedSimpArgs false
namespace Go.Ev
noncomputable section
open Go.Pg
structure RefSt (s : St) (r a d hi lo : Nat) (v : Value) (ls : List Ln) (tit : Ln) (h w : Value) (hd pro : List Ln) (z5 : List Value) (told : Int) (fr : Fr) (t : St) (j : Nat) (ps : List (List Ln)) (g : Value) (H : Nat) : Prop where
  L : Low s.next s t
  rr : Row t r z5
  rd : Rdr t hi a v ls j
  dd : Row t d [strOf tit, h, w, g, .slice none 0 0]
  mh : Mid t (d + 1) lo 1 h (hd.map strOf)
  mw : Mid t (d + 1) lo 1 w (pro.map strOf)
  gg : Grows t lo H g ps
  gb : ∀ b k, g = sl b k → b < t.next
  le : lo ≤ t.next
  f2 : fr.get 2 = some (ptr r 0)
  f6 : fr.get 6 = some (ptr a 0)
  f7 : fr.get 7 = some (ptr d 0)
  f8 : fr.get 8 = some (.int .i64 told)
section
variable {E : Env} {f : FuncId} {s t u : St} {r a d hi lo : Nat} {v h w : Value} {ls hd pro : List Ln} {tit : Ln} {z5 : List Value} {told : Int} {l : Ln}
theorem Mid.keep {lo' hi' : Nat} {x : Value} {xs : List Value} (hm : Mid s lo' hi' 1 x xs) (k : ∀ c, lo' ≤ c → c < hi' → t.get c = s.get c) : Mid t lo' hi' 1 x xs := by
  obtain ⟨m1, m2⟩ := hm
  refine ⟨?_, m2⟩
  cases m1 with
  | nil => exact .nil
  | mk hb hg hl hc =>
    have := m2 _ _ _ rfl
    exact .mk hb (by rw [k _ this hb]; exact hg) hl hc
theorem RefSt.go {fr fr' : Fr} {j j' : Nat} {ps : List (List Ln)} {g : Value} {H : Nat} (R : RefSt s r a d hi lo v ls tit h w hd pro z5 told fr t j ps g H) (ho : s.next ≤ r ∧ r < a ∧ a < d ∧ d < lo) (B : But a t u) (Rd : Rdr u hi a v ls j') (k2 : fr'.get 2 = some (ptr r 0)) (k6 : fr'.get 6 = some (ptr a 0)) (k7 : fr'.get 7 = some (ptr d 0)) (k8 : fr'.get 8 = some (.int .i64 told)) : RefSt s r a d hi lo v ls tit h w hd pro z5 told fr' u j' ps g H := by
  have hle := R.le
  have hL := R.L.2.1
  have halt := R.rd.lt
  exact { L := R.L.trans (But.low B (by omega) (by omega)), rr := R.rr.but B (by omega) (by omega), rd := Rd, dd := R.dd.but B (by omega) (by omega), mh := R.mh.but B hle (.inl (by omega)), mw := R.mw.but B hle (.inl (by omega)), gg := R.gg.two (But.two (d := d) B) (by omega) (by omega),
          gb := fun b k e => Nat.lt_of_lt_of_le (R.gb b k e) B.1, le := Nat.le_trans hle B.1, f2 := k2, f6 := k6, f7 := k7, f8 := k8 }
end
end
end Go.Ev
