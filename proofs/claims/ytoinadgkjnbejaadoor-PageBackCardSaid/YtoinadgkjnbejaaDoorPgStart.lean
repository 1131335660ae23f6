/-
  The state a page law starts in: what is known of the package-level variables.
-/
import Derived.Test.YtoinadgkjnbejaaDoorPgBase
set_option linter.unusedVariables false
namespace Go.Ev
noncomputable section
structure Starts (P : Program) (w : World) (m : Int) (tp : TypeId) (a b : Addr) : Prop where
  n : 8 ≤ w.heap.size
  tab : ∃ T fr, w.heap[0]? = some (.cells ⟨powRow⟩ T fr)
  max : ∃ T fr, w.heap[1]? = some (.cells #[.int .i64 m] T fr)
  syn : ∃ T fr, w.heap[2]? = some (.cells #[.iface tp (.pointer (some a))] T fr)
  rng : ∃ T fr, w.heap[3]? = some (.cells #[.iface tp (.pointer (some b))] T fr)
  ha : ∃ v, w.cell? a = some v
  hb : ∃ v, w.cell? b = some v
theorem cell_at {w : World} {a : Addr} {v : Value} (h : w.cell? a = some v) : a.spot = none ∧ ∃ cs T fr, w.heap[a.block]? = some (.cells cs T fr) ∧ a.off < cs.size := by
  unfold World.cell? at h
  split at h
  · rename_i cs T fr hh
    split at h
    · cases h
    · rename_i hs
      refine ⟨by cases e : a.spot with | none => rfl | some x => rw [e] at hs; exact absurd rfl hs, cs, T, fr, hh, ?_⟩
      exact (Array.getElem?_eq_some_iff.1 h).1
  · cases h
theorem var_at {P : Program} {w : World} {n : String} {g : Nat} {cs : Array Value} (hg : P.globalNamed n = some g) (h : w.var? P n = some cs) : ∃ T fr, w.heap[g]? = some (.cells cs T fr) := by
  unfold World.var? at h
  rw [hg] at h
  simp only [Option.bind_some] at h
  split at h
  · rename_i cs' T fr hh
    cases h
    exact ⟨T, fr, hh⟩
  · cases h
theorem shape_one {P : Program} {w : World} (hs : w.ShapedOpen P) {g : Nat} (hg : g < P.globals.size) {z : Array Value × TypeId} (h0 : ((begin P (fun _ _ => 0) default).world.heap[g]?).bind Obj.row? = some z) {v : Value} (h : w.cell? ⟨g, 0, none⟩ = some v) (hz : z.1.size = 1) :
    ∃ T fr, w.heap[g]? = some (.cells #[v] T fr) := by
  obtain ⟨cs, h1, h2, -⟩ := hs.1 g z.1 z.2 hg h0
  have e : cs = #[v] := by
    have hc : cs[0]? = some v := by
      unfold World.cell? at h
      simp only at h
      rw [h1] at h
      simpa using h
    apply Array.ext
    · simp; omega
    · intro i hi hi'
      have : i = 0 := by simp at hi'; omega
      subst this
      obtain ⟨_, e⟩ := Array.getElem?_eq_some_iff.1 hc
      simpa using e
  exact ⟨_, _, e ▸ h1⟩
section
variable {P : Program} {w : World} {m : Int} {tp : TypeId} {a b : Addr}
def startG (m : Int) (tp : TypeId) : List (Nat × List Value) := [(0, powRow), (1, [.int .i64 m]), (2, [.iface tp (ptr 8 0)]), (3, [.iface tp (ptr 9 0)])]
def darkOf (w : World) (a : Addr) : Blk × List Value := (⟨a.block, a.off, ((w.heap[a.block]?).elim 0 fun o => match o with | .cells cs _ _ => cs.size | _ => 0), 0⟩, [])
def startR (w : World) (a b : Addr) : List (Blk × List Value) := [darkOf w a, darkOf w b]
theorem pow_get (j : Nat) (x : Value) (h : powRow[j]? = some x) : ∃ z, x = .int .u64 z := by
  unfold powRow at h
  rw [List.getElem?_map, Option.map_eq_some_iff] at h
  obtain ⟨z, -, rfl⟩ := h
  exact ⟨z, rfl⟩
theorem dark_row {v : Value} (h : w.cell? a = some v) : ∃ cs' T fr, w.heap[(darkOf w a).1.b]? = some (.cells cs' T fr) ∧ cs'.size = (darkOf w a).1.n ∧ (darkOf w a).1.sh + (darkOf w a).2.length ≤ (darkOf w a).1.n := by
  obtain ⟨-, cs, T, fr, h1, h2⟩ := cell_at h
  refine ⟨cs, T, fr, h1, ?_, ?_⟩
  · unfold darkOf
    simp only
    rw [h1]
    rfl
  · unfold darkOf
    simp only
    rw [h1]
    simp only [Option.elim, List.length_nil]
    omega
theorem start_rel (h : Starts P w m tp a b) : Rel (gInj 8 (startG m tp) (startR w a b)) w.heap.size (gSt 8 (startG m tp) (startR w a b)) w := by
  have hn := h.n
  have ar : ∀ (c : Addr) (i : Nat), (startR w a b)[i]? = some (darkOf w c) → c.spot = none → VR (gInj 8 (startG m tp) (startR w a b)) (.iface tp (ptr (8 + i) 0)) (.iface tp (.pointer (some c))) := by
    intro c i hi hs
    refine .iface tp (.ptr ⟨(darkOf w c).1, ?_, rfl, ?_⟩)
    · show gInj 8 _ _ (8 + i) = _
      unfold gInj
      rw [if_neg (by omega), show 8 + i - 8 = i from by omega, hi]
      rfl
    · obtain ⟨cb, co, cs⟩ := c
      simp only at hs
      subst hs
      rfl
  refine gSt_rel hn ?_ ?_
  · intro k v hk
    unfold startG gl at hk
    split at hk
    · rename_i e
      cases hk
      subst e
      obtain ⟨T, fr, e⟩ := h.tab
      refine ⟨by decide, _, T, fr, e, rfl, fun j x hx => ?_⟩
      obtain ⟨z, rfl⟩ := pow_get j x hx
      exact ⟨trivial, _, by simpa using hx, .int _ _⟩
    unfold gl at hk
    split at hk
    · rename_i e
      cases hk
      subst e
      obtain ⟨T, fr, e⟩ := h.max
      refine ⟨by decide, _, T, fr, e, rfl, fun j x hx => ?_⟩
      cases j with
      | zero => cases hx; exact ⟨trivial, _, rfl, .int _ _⟩
      | succ j => cases hx
    unfold gl at hk
    split at hk
    · rename_i e
      cases hk
      subst e
      obtain ⟨T, fr, e⟩ := h.syn
      refine ⟨by decide, _, T, fr, e, rfl, fun j x hx => ?_⟩
      cases j with
      | zero =>
        cases hx
        obtain ⟨v, hv⟩ := h.ha
        exact ⟨trivial, _, rfl, ar a 0 rfl (cell_at hv).1⟩
      | succ j => cases hx
    unfold gl at hk
    split at hk
    · rename_i e
      cases hk
      subst e
      obtain ⟨T, fr, e⟩ := h.rng
      refine ⟨by decide, _, T, fr, e, rfl, fun j x hx => ?_⟩
      cases j with
      | zero =>
        cases hx
        obtain ⟨v, hv⟩ := h.hb
        exact ⟨trivial, _, rfl, ar b 1 rfl (cell_at hv).1⟩
      | succ j => cases hx
    · cases hk
  · intro i r hr
    have dk : ∀ c : Addr, (∃ v, w.cell? c = some v) → ∃ cs' T fr, w.heap[(darkOf w c).1.b]? = some (.cells cs' T fr) ∧ cs'.size = (darkOf w c).1.n ∧ (darkOf w c).1.sh + (darkOf w c).2.length ≤ (darkOf w c).1.n ∧ ∀ (j : Nat) (x : Value), (darkOf w c).2[j]? = some x → scal x ∧ ∃ y, cs'[(darkOf w c).1.sh + j]? = some y ∧ VR (gInj 8 (startG m tp) (startR w a b)) x y := by
      rintro c ⟨v, hv⟩
      obtain ⟨cs, T, fr, h1, h2, h3⟩ := dark_row hv
      exact ⟨cs, T, fr, h1, h2, h3, fun j x hx => by cases hx⟩
    cases i with
    | zero => cases hr; exact dk a h.ha
    | succ i =>
      cases i with
      | zero => cases hr; exact dk b h.hb
      | succ i => cases hr
theorem start_gl : Gl (gSt 8 (startG m tp) (startR w a b)) := by
  have g : ∀ k v, gl (startG m tp) k = some v → At (gSt 8 (startG m tp) (startR w a b)) k v := fun k v h => by
    show (gSt 8 _ _).get k = _
    rw [gSt_get, h]
  exact ⟨g 0 _ rfl, ⟨m, g 1 _ rfl⟩, ⟨tp, _, g 2 _ rfl⟩, ⟨tp, _, g 3 _ rfl⟩, by show 8 ≤ 8 + 2; decide⟩
theorem start_globs (hn : P.globals.size = 8) (h0 : gsz P 0 = 20) (h1 : gsz P 1 = 1) (h2 : gsz P 2 = 1) (h3 : gsz P 3 = 1) : Globs P (gInj 8 (startG m tp) (startR w a b)) := by
  refine gSt_globs hn fun k v hk => ?_
  unfold startG gl at hk
  split at hk
  · rename_i e; cases hk; subst e; rw [h0]; rfl
  unfold gl at hk
  split at hk
  · rename_i e; cases hk; subst e; rw [h1]; rfl
  unfold gl at hk
  split at hk
  · rename_i e; cases hk; subst e; rw [h2]; rfl
  unfold gl at hk
  split at hk
  · rename_i e; cases hk; subst e; rw [h3]; rfl
  · cases hk
end
end
end Go.Ev
