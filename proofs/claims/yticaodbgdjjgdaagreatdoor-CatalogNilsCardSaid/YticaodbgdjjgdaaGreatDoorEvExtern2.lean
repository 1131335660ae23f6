/-
  Bytes: looked for, compared.
-/
import Derived.Test.YticaodbgdjjgdaaGreatDoorEvExtern
import Derived.Lib.Bytealg
set_option linter.unusedVariables false
set_option linter.unusedSimpArgs false
namespace Go.Ev
open Go (Sem)
section
variable {P : Program} {ι : Inj} {w : World} {base : Nat} {s : St}

theorem run_extLoad : ∀ (ns : List Int) (a : Addr) (acc : ByteArray), (∀ (j : Nat) (x : Int), ns[j]? = some x → w.cell? (a.add j) = some (.int .u8 x)) →
    (Extern.Bytes.loadBytes a ns.length acc).run P w = .ok ⟨acc.data ++ (ns.map fun n => UInt8.ofNat n.toNat).toArray⟩ w
  | [], a, acc, _ => by simp [Extern.Bytes.loadBytes]
  | x :: l, a, acc, h => by
    have h0 : w.cell? a = some (.int .u8 x) := by
      have := h 0 x rfl
      simpa [Addr.add] using this
    have ih := run_extLoad l (a.add 1) (acc.push (UInt8.ofNat x.toNat)) (fun j y hy => by
      have := h (j + 1) y (by simpa using hy)
      have e : (a.add 1).add j = a.add (j + 1) := by
        unfold Addr.add
        by_cases hj : j = 0
        · subst hj; simp
        · simp [hj]; omega
      rw [e]; exact this)
    have hx : (x.toNat).toUInt8 = UInt8.ofNat x.toNat := rfl
    simp only [List.length_cons, Extern.Bytes.loadBytes, Sem.run_bind, run_load, h0, Result.andThen, hx]
    rw [ih]
    congr 1
    apply ByteArray.ext
    simp [ByteArray.push]

theorem optByte_of : ∀ (b : List UInt8), optL toByte (b.map ofByte) = some b
  | [] => rfl
  | c :: b => by
    rw [List.map_cons, optL_cons]
    have h : toByte (ofByte c) = some c := by
      show ob (asInt (ofByte c)) (fun a => must (kEq a.1 .u8) (some (UInt8.ofNat a.2.toNat))) = some c
      show must true (some (UInt8.ofNat ((c.toNat : Int)).toNat)) = some c
      rw [Int.toNat_natCast, UInt8.ofNat_toNat]; rfl
    rw [h, ob_some, optByte_of b]; rfl

theorem bytesOf_ok (r : Rel ι base s w) {Y y : Value} (hy : VR ι Y y) {n : Nat} (hn : lenOf Y = some n) {l : List Value} (hl : s.elems 1 Y n = some l) {b : List UInt8} (hb : optL toByte l = some b) : (Extern.Bytes.bytesOf y).run P w = .ok ⟨⟨b⟩⟩ w := by
  have slices : ∀ (a a' : Addr) (m c : Nat), AR ι a a' → s.row a (n * 1) = some l → (Extern.Bytes.bytesOf (.slice (some a') n c)).run P w = .ok ⟨⟨b⟩⟩ w := by
    intro a a' m c ha hrow
    obtain ⟨g1, g2, q, g3, g4⟩ := r.row ha hrow
    obtain ⟨ns, rfl, rfl⟩ := toByte_eq hb
    have hlen : ns.length = n := by simpa using g1
    have hc : ∀ (j : Nat) (x : Int), ns[j]? = some x → w.cell? (a'.add j) = some (.int .u8 x) := by
      intro j x hx
      have hj : j < n := by have := (List.getElem?_eq_some_iff.1 hx).1; omega
      have h1 : (ns.map fun n => Value.int .u8 n)[j]? = some (.int .u8 x) := by rw [List.getElem?_map, hx]; rfl
      obtain ⟨z, hz, hv⟩ := g3.some h1
      rw [g4 j (by omega), hz, hv.intE]
    have := run_extLoad (P := P) ns a' .empty hc
    rw [hlen] at this
    show (Extern.Bytes.loadBytes a' n .empty).run P w = _
    rw [this]
    congr 1
    apply ByteArray.ext
    apply Array.ext'
    simp
  cases hy with
  | string q =>
    simp only [lenOf, lenL_eq, Option.some.injEq] at hn
    obtain ⟨h1, h2⟩ := must_eq.1 (show (must (Nat.beq 1 1) (some (mapL ofByte (takeL n q.data.toList)))) = some l from hl)
    simp only [Option.some.injEq] at h2
    rw [mapL_eq, takeL_eq, ← hn, List.take_length] at h2
    rw [← h2, optByte_of] at hb
    cases hb
    rfl
  | slN =>
    cases hn
    cases hl
    cases hb
    rfl
  | sl ha hc hle => cases hn; exact slices _ _ 0 _ ha hl
  | slO h1 hs ha hc hle => cases hn; exact slices _ _ 0 _ ⟨_, h1, hs, ha⟩ hl
  | slV h1 hs ha =>
    cases hn
    have : l = [] := by
      obtain ⟨c, _, h⟩ := ob_eq.1 (show s.row _ (0 * 1) = some l from hl)
      obtain ⟨_, h⟩ := must_eq.1 h
      simp only [Nat.zero_mul, takeL_eq, List.take_zero, Option.some.injEq] at h
      exact h.symm
    subst this
    cases hb
    rfl
  | _ => simp [lenOf] at hn

theorem cmp_lt : ∀ (x y : List UInt8), Lib.compareBytes x y = cnd (bytesLt x y) (-1) (cnd (bytesLt y x) 1 0)
  | [], [] => rfl
  | [], _ :: _ => rfl
  | _ :: _, [] => rfl
  | a :: x, b :: y => by
    have ih := cmp_lt x y
    rw [bytesLt_eq, bytesLt_eq] at ih ⊢
    unfold Lib.compareBytes Op.bytesLess
    by_cases h1 : a < b
    · have h2 : ¬ b < a := by rw [UInt8.lt_iff_toNat_lt] at *; omega
      simp [h1, h2]
    · by_cases h2 : b < a
      · have h3 : (a == b) = false := by
          rw [beq_eq_false_iff_ne]; rintro rfl; exact h1 h2
        simp [h1, h2, h3]
      · have h3 : a = b := by
          apply UInt8.toNat_inj.1
          rw [UInt8.lt_iff_toNat_lt] at *; omega
        subst h3
        simp [h1, ih]

variable {f : FuncId} {fn : Func}
theorem isPrim_compare (E : Entry P f fn Extern.BytealgCompare.compare) : IsPrim P f pCompare := by
  intro ι base s w args args' v s' hg r ha h
  obtain ⟨x, y, rfl, h1⟩ := args2_eq h
  obtain ⟨x', y', rfl, hx, hy⟩ := ha.two
  obtain ⟨n, hn, h2⟩ := ob_eq.1 h1
  obtain ⟨m, hm, h3⟩ := ob_eq.1 h2
  obtain ⟨l, hl, h4⟩ := ob_eq.1 h3
  obtain ⟨k, hk, h5⟩ := ob_eq.1 h4
  obtain ⟨b, hb, h6⟩ := ob_eq.1 h5
  obtain ⟨c, hc, h7⟩ := ob_eq.1 h6
  cases h7
  refine .inl ⟨num (Lib.compareBytes b c), w, E.run ?_, ι, Ext.refl r, ?_⟩
  · show Sem.run P (do pure (goInt (Extern.BytealgCompare.cmp (← Extern.Bytes.bytesOf x') (← Extern.Bytes.bytesOf y')))) w = _
    simp only [Sem.run_bind, bytesOf_ok (P := P) r hx hn hl hb, bytesOf_ok (P := P) r hy hm hk hc, Result.andThen]
    rw [Lib.cmp_eq]
    rfl
  · rw [cmp_lt]; exact .int _ _

theorem find_byte (c : Nat) (hc : c < 256) : ∀ (l : List UInt8) (i : Nat), findByte c l i = if Lib.indexByte l (UInt8.ofNat c) = -1 then -1 else Lib.indexByte l (UInt8.ofNat c) + i
  | [], i => rfl
  | x :: l, i => by
    have ih := find_byte c hc l (i + 1)
    have e : findByte c (x :: l) i = cnd (Nat.beq x.toNat c) (Int.ofNat i) (findByte c l (i + 1)) := rfl
    rw [e, cnd_eq, ih]
    have hx : (x == UInt8.ofNat c) = Nat.beq x.toNat c := by
      rw [Bool.eq_iff_iff, beq_iff_eq, Nat.beq_eq]
      constructor
      · rintro rfl; rw [UInt8.toNat_ofNat_of_lt' hc]
      · intro h; apply UInt8.toNat_inj.1; rw [h, UInt8.toNat_ofNat_of_lt' hc]
    have e2 : Lib.indexByte (x :: l) (UInt8.ofNat c) = if x == UInt8.ofNat c then 0 else if Lib.indexByte l (UInt8.ofNat c) == -1 then -1 else Lib.indexByte l (UInt8.ofNat c) + 1 := rfl
    rw [e2, hx]
    have hge := Lib.indexByte_ge l (UInt8.ofNat c)
    by_cases h : Nat.beq x.toNat c = true
    · simp [h]
    · rw [if_neg h, if_neg h]
      by_cases h2 : Lib.indexByte l (UInt8.ofNat c) = -1
      · simp [h2]
      · have h3 : (Lib.indexByte l (UInt8.ofNat c) == -1) = false := by rw [beq_eq_false_iff_ne]; exact h2
        rw [if_neg h2, h3]
        simp only [Bool.false_eq_true, if_false]
        rw [if_neg (by omega)]
        omega

theorem isPrim_indexByteString (E : Entry P f fn Extern.BytealgIndexByte.indexByte) : IsPrim P f pIndexByteString := by
  intro ι base s w args args' v s' hg r ha h
  obtain ⟨x, y, rfl, h1⟩ := args2_eq h
  obtain ⟨x', y', rfl, hx, hy⟩ := ha.two
  obtain ⟨b, hb, h2⟩ := ob_eq.1 h1
  obtain ⟨k, hk, h3⟩ := ob_eq.1 h2
  obtain ⟨hk8, h4⟩ := must_eq.1 h3
  obtain ⟨c, hc, h5⟩ := ob_eq.1 h4
  obtain ⟨h256, h6⟩ := must_eq.1 h5
  cases h6
  rw [kEq_eq] at hk8
  have hk8 : k.1 = .u8 := by simpa using hk8
  obtain ⟨kk, hyc⟩ := asNat_eq hc
  have hy2 := asInt_eq hk
  rw [hyc] at hy2
  simp only [Value.int.injEq] at hy2
  rw [hyc, hy2.1, hk8] at hy
  rw [asStr_eq hb] at hx
  rw [hx.strE, hy.intE]
  have h256 : c < 256 := by simpa [Nat.blt_eq] using h256
  refine .inl ⟨num (Lib.indexByte b (UInt8.ofNat c)), w, E.run ?_, ι, Ext.refl r, ?_⟩
  · have := Lib.run_indexByteString (P := P) ⟨⟨b⟩⟩ (c : Int) w
    exact this
  · rw [find_byte c h256]
    have : (if Lib.indexByte b (UInt8.ofNat c) = -1 then -1 else Lib.indexByte b (UInt8.ofNat c) + ((0 : Nat) : Int)) = Lib.indexByte b (UInt8.ofNat c) := by
      split
      · rename_i h; exact h.symm
      · simp
    rw [this]
    exact .int _ _
end
end Go.Ev
