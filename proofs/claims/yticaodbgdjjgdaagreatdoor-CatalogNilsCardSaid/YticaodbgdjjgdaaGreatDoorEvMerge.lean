/-
  Ways that end alike are one.
-/
import Derived.Test.YticaodbgdjjgdaaGreatDoorEvSame
set_option linter.unusedVariables false
set_option linter.unusedSimpArgs false
namespace Go.Ev
open Go (Sem)

theorem sameEnts_eq : ∀ {x y : List (Value × Value)}, sameEnts x y = true → x = y := by
  intro x
  induction x with
  | nil => intro y h; cases y with
    | nil => rfl
    | cons _ _ => cases h
  | cons a x ih =>
    intro y h
    cases y with
    | nil => cases h
    | cons b y =>
      have h : (sameV a.1 b.1 && same a.2 b.2 && sameEnts x y) = true := h
      rw [Bool.and_eq_true, Bool.and_eq_true] at h
      have e1 := sameV_eq h.1.1
      have e2 := same_eq h.1.2
      rw [ih h.2, show a = b from Prod.ext e1 e2]
theorem mdNo_eq {a b : Md} (h : Nat.beq (mdNo a) (mdNo b) = true) : a = b := by
  rw [Nat.beq_eq] at h
  cases a <;> cases b <;> first | rfl | cases h
theorem sameOb_eq {x y : Ob} (h : sameOb x y = true) : x = y := by
  cases x with
  | cells cs es md =>
    cases y with
    | cells cs2 es2 md2 =>
      have h : (Nat.beq es es2 && Nat.beq (mdNo md) (mdNo md2) && sameL cs cs2) = true := h
      rw [Bool.and_eq_true, Bool.and_eq_true] at h
      rw [Nat.eq_of_beq_eq_true h.1.1, mdNo_eq h.1.2, sameL_eq h.2]
    | _ => cases h
  | map es c =>
    cases y with
    | map es2 c2 =>
      have h : (Nat.beq c c2 && sameEnts es es2) = true := h
      rw [Bool.and_eq_true] at h
      rw [Nat.eq_of_beq_eq_true h.1, sameEnts_eq h.2]
    | _ => cases h
  | dead => cases y <;> first | rfl | cases h
  | _ => cases h
theorem sameO_eq {x y : Option Ob} (h : sameO x y = true) : x = y := by
  cases x with
  | none => cases y with
    | none => rfl
    | some _ => cases h
  | some a => cases y with
    | none => cases h
    | some b => rw [sameOb_eq (show sameOb a b = true from h)]
theorem sameT_eq : ∀ {x y : Tr Ob}, sameT x y = true → x = y := by
  intro x
  induction x with
  | e => intro y h; cases y with
    | e => rfl
    | n => cases h
  | n v a b c d p f g i ha hb hc hd hp hf hg hi =>
    intro y h
    cases y with
    | e => cases h
    | n v2 a2 b2 c2 d2 p2 f2 g2 i2 =>
      have h : (sameO v v2 && (sameT a a2 && (sameT b b2 && (sameT c c2 && (sameT d d2 && (sameT p p2 && (sameT f f2 && (sameT g g2 && sameT i i2)))))))) = true := h
      simp only [Bool.and_eq_true] at h
      obtain ⟨h0, h1, h2, h3, h4, h5, h6, h7, h8⟩ := h
      rw [sameO_eq h0, ha h1, hb h2, hc h3, hd h4, hp h5, hf h6, hg h7, hi h8]
theorem sameSt_eq {s t : St} (h : sameSt s t = true) : s = t := by
  unfold sameSt at h
  rw [Bool.and_eq_true] at h
  obtain ⟨sh, sn⟩ := s
  obtain ⟨th, tn⟩ := t
  have h1 : sn = tn := Nat.eq_of_beq_eq_true h.1
  have h2 : sh = th := sameT_eq h.2
  rw [h1, h2]
theorem sameR_eq {x y : Value × St} (h : sameR x y = true) : x = y := by
  unfold sameR at h
  rw [Bool.and_eq_true] at h
  exact Prod.ext (same_eq h.1) (sameSt_eq h.2)
theorem allSame_eq {x : Value × St} {t : List (Value × St)} (h : allSame x t = true) : ∀ y ∈ t, y = x := by
  induction t with
  | nil => simp
  | cons z t ih =>
    have h : cnd (sameR x z) (allSame x t) false = true := h
    rw [cnd_eq] at h
    split at h
    · rename_i hs
      intro y hy
      rcases List.mem_cons.1 hy with rfl | hy
      · exact (sameR_eq hs).symm
      · exact ih h y hy
    · cases h

theorem killS_get (lo : Nat) (s : St) : ∀ (n a : Nat), (killS lo n s).get a = if lo ≤ a ∧ a < lo + n then some .dead else s.get a := by
  intro n
  induction n with
  | zero => intro a; rw [if_neg (by omega)]; rfl
  | succ n ih =>
    intro a
    show ((killS lo n s).set (lo + n) .dead).get a = _
    rw [St.get_set]
    by_cases h : lo + n = a
    · rw [if_pos h, if_pos (by omega)]
    · rw [if_neg h, ih a]
      by_cases h2 : lo ≤ a ∧ a < lo + n
      · rw [if_pos h2, if_pos (by omega)]
      · rw [if_neg h2, if_neg (by omega)]
theorem killTo_get (lo mx : Nat) (s : St) (a : Nat) : (killTo lo mx s).get a = if lo ≤ a ∧ a < lo + (mx - lo) then some .dead else s.get a := killS_get lo s (mx - lo) a

theorem Ext.killed {ι κ : Inj} {base : Nat} {s s1 : St} {w w' : World} (h : Ext none_ ι base s w κ s1 w') {mx : Nat} (hm : s1.next ≤ mx) : Ext none_ ι base s w κ (killTo s.next mx s1) w' := by
  have hle := h.next
  have hmx : (killTo s.next mx s1).next = mx := rfl
  have look : ∀ a o, (killTo s.next mx s1).get a = some o → live o = true → s1.get a = some o ∧ (a < s.next ∨ mx ≤ a) := by
    intro a o ha hl
    rw [killTo_get] at ha
    split at ha
    · cases ha; cases hl
    · exact ⟨ha, by omega⟩
  have r := h.rel
  refine ⟨h.le, ⟨?_, ?_, ?_, ?_, r.blk, r.base_le⟩, by rw [hmx]; omega, ?_, h.keep, ?_, h.size, h.os, h.tape, h.output⟩
  · intro a o ha hl; exact r.ob a o (look a o ha hl).1 hl
  · intro a a' o o' B B' ha ha' hne ho hl hB hB'
    exact r.sep a a' o o' B B' (look a o ha (owned_live ho)).1 (look a' o' ha' hl).1 hne ho hl hB hB'
  · intro a o B ha ho hB; exact r.own a o B (look a o ha (owned_live ho)).1 ho hB
  · intro a ha
    rw [hmx] at ha
    obtain ⟨g1, g2⟩ := r.next a (by omega)
    refine ⟨?_, g2⟩
    rw [killTo_get, if_neg (by omega)]; exact g1
  · intro a ha hs g1
    obtain ⟨g2, g3⟩ := h.gone a ha hs g1
    exact ⟨by rw [killTo_get, if_neg (by omega)]; exact g2, g3⟩
  · intro a o B ha hl hB hlt
    exact h.img a o B (look a o ha hl).1 hl hB hlt

theorem most_le : ∀ (t : List (Value × St)) (n : Nat), n ≤ most t n ∧ ∀ y ∈ t, y.2.next ≤ most t n := by
  intro t
  induction t with
  | nil => intro n; exact ⟨Nat.le_refl _, by simp⟩
  | cons z t ih =>
    intro n
    obtain ⟨h1, h2⟩ := ih (cnd (Nat.ble n z.2.next) z.2.next n)
    have e : most (z :: t) n = most t (cnd (Nat.ble n z.2.next) z.2.next n) := rfl
    rw [e]
    have hle : n ≤ cnd (Nat.ble n z.2.next) z.2.next n ∧ z.2.next ≤ cnd (Nat.ble n z.2.next) z.2.next n := by
      rw [cnd_eq]
      split
      · rename_i h; rw [Nat.ble_eq] at h; exact ⟨h, Nat.le_refl _⟩
      · rename_i h; rw [Nat.ble_eq] at h; omega
    refine ⟨by omega, fun y hy => ?_⟩
    rcases List.mem_cons.1 hy with rfl | hy
    · omega
    · exact h2 y hy

theorem merge_ok {ι κ : Inj} {base : Nat} {s : St} {w w' : World} {l : List (Value × St)} {out : Value × St} {v' : Value} (hm : out ∈ l) (h : Ext none_ ι base s w κ out.2 w') (hv : VR κ out.1 v') :
    ∃ out ∈ mergeL s.next l, ∃ κ, Ext none_ ι base s w κ out.2 w' ∧ VR κ out.1 v' := by
  cases l with
  | nil => simp at hm
  | cons x t =>
    cases t with
    | nil =>
      obtain rfl : out = x := by simpa using hm
      exact ⟨out, by show out ∈ [out]; simp, κ, h, hv⟩
    | cons y t =>
      show ∃ out ∈ mergeM s.next x (y :: t), _
      unfold mergeM
      rw [cnd_eq]
      split
      · rename_i hs
        have := allSame_eq hs
        have e : out = x := by
          rcases List.mem_cons.1 hm with e | e
          · exact e
          · exact this out e
        exact ⟨x, by simp, κ, e ▸ h, e ▸ hv⟩
      · unfold mergeK
        rw [cnd_eq]
        split
        · rename_i hs
          obtain ⟨m1, m2⟩ := most_le (y :: t) x.2.next
          generalize most (y :: t) x.2.next = mx at hs m1 m2
          have hall := allSame_eq hs
          have hk : out.2.next ≤ mx := by
            rcases List.mem_cons.1 hm with e | e
            · rw [e]; exact m1
            · exact m2 out e
          have e : (out.1, killTo s.next mx out.2) = (x.1, killTo s.next mx x.2) := by
            rcases List.mem_cons.1 hm with e | e
            · rw [e]
            · exact hall _ (by rw [mapL_eq]; exact List.mem_map.2 ⟨out, e, rfl⟩)
          refine ⟨(x.1, killTo s.next mx x.2), by simp, κ, ?_, ?_⟩
          · rw [← e]; exact h.killed hk
          · rw [← e]; exact hv
        · exact ⟨out, hm, κ, h, hv⟩
end Go.Ev
