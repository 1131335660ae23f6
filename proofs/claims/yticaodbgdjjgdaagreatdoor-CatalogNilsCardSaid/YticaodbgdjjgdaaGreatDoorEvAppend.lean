/-
  append.
-/
import Derived.Test.YticaodbgdjjgdaaGreatDoorEvWrite
import Derived.Deep.AppendSrc
import Derived.Lib.AppendZerosOnto
import Derived.Test.YticaodbgdjjgdaaGreatDoorEvMake2
set_option linter.unusedVariables false
set_option linter.unusedSimpArgs false
namespace Go.Ev
open Go (Sem)

theorem scal_one {v : Value} (h : scal v) : v.oneCell' = true := by cases v <;> first | rfl | exact h.elim

section
variable {P : Program} {ι : Inj} {w : World} {base : Nat} {s : St} {o : Oper} {ρ : Operand → Value}

theorem info_of {E : TypeId} {n b : Nat} {z : Value} (hE : sizeOf? P E = some n) (hb : bytesOf? P E = some b) (hz : zeroOf P E = some z) : ∃ i, P.info? E = some i ∧ i.size = n ∧ i.bytes = b ∧ i.zero = some z := by
  unfold sizeOf? at hE; unfold bytesOf? at hb; unfold zeroOf at hz
  cases e : P.info? E with
  | none => rw [e] at hE; cases hE
  | some i =>
    rw [e] at hE hb hz
    cases hE; cases hb
    cases e2 : i.zero with
    | none => simp [e2] at hz
    | some z' =>
      simp only [Option.bind_some, e2] at hz
      split at hz
      · cases hz; exact ⟨i, rfl, rfl, rfl, e2⟩
      · cases hz

theorem LR.scal {l m : List Value} (h : LR ι l m) (hs : ∀ x ∈ l, Ev.scal x) : ∀ y ∈ m, Ev.scal y := by
  intro y hy
  obtain ⟨i, hi, rfl⟩ := List.mem_iff_getElem.1 hy
  have hi' : i < l.length := by rw [h.length]; exact hi
  exact (h.get i l[i] m[i] (List.getElem?_eq_getElem hi') (List.getElem?_eq_getElem hi)).scal (hs _ (List.getElem_mem hi'))

/-- What is appended, or copied: what the machine reads of it, the model reads. -/
theorem firstCells_ok (r : Rel ι base s w) {size : Nat} {Y y : Value} (hy : VR ι Y y) {n k : Nat} (hn : lenOf Y = some n) (hk : k ≤ n) {new : List Value} (he : s.elems size Y k = some new) :
    (∀ w' : World, (Builtin.lenOf y).run P w' = .ok n w') ∧ ∃ news : List Value, (∀ d, (Builtin.firstCells size k y).run P { w with drawn := d } = .ok news.toArray { w with drawn := d }) ∧ news.length = k * size ∧ LR ι new news ∧ (∀ x ∈ new, scal x) := by
  have slices : ∀ (a a' : Addr) (m c c' : Nat), AR ι a a' → s.row a (k * size) = some new → ∃ news : List Value, (∀ d, (Builtin.firstCells size k (.slice (some a') m c')).run P { w with drawn := d } = .ok news.toArray { w with drawn := d }) ∧ news.length = k * size ∧ LR ι new news ∧ (∀ x ∈ new, scal x) := by
    intro a a' m c c' ha hrow
    obtain ⟨g1, g2, q, g3, g4⟩ := r.row ha hrow
    refine ⟨q, fun d => ?_, by rw [← g3.length, g1], g3, g2⟩
    have : (loadCells a' (k * size)).run P { w with drawn := d } = .ok ⟨q⟩ { w with drawn := d } := run_loadCells (by rw [← g3.length, g1]) g4
    simpa [Builtin.firstCells] using this
  cases hy with
  | string b =>
    simp only [lenOf, lenL_eq, Option.some.injEq] at hn
    have he' : (must (Nat.beq size 1) (some (mapL ofByte (takeL k b.data.toList)))) = some new := he
    obtain ⟨h1, h2⟩ := must_eq.1 he'
    rw [Nat.beq_eq] at h1
    subst h1
    rw [mapL_eq, takeL_eq] at h2
    cases h2
    have hsz : b.data.toList.length = b.size := rfl
    refine ⟨fun w' => by subst hn; rfl, (b.data.toList.take k).map fun c => Value.int .u8 c.toNat, fun d => ?_, ?_, ?_, ?_⟩
    · simp [Builtin.firstCells]
      apply Array.ext'
      simp [List.extract_eq_take_drop]
    · have : b.data.toList.length = b.size := rfl
      simp only [List.length_map, List.length_take]; omega
    · refine LR.of (by simp) ?_
      intro i x y hx hy
      rw [List.getElem?_map] at hx hy
      cases e : (b.data.toList.take k)[i]? with
      | none => rw [e] at hx; cases hx
      | some c => rw [e] at hx hy; cases hx; cases hy; exact .int _ _
    · intro x hx
      obtain ⟨c, _, rfl⟩ := List.mem_map.1 hx
      trivial
  | slN =>
    cases hn
    cases he
    obtain rfl : k = 0 := by omega
    exact ⟨fun _ => rfl, [], fun d => by simp [Builtin.firstCells], by simp, .nil, by simp⟩
  | sl ha hc hle =>
    cases hn
    exact ⟨fun _ => rfl, slices _ _ _ 0 _ ha he⟩
  | slO h1 hs ha hc hle =>
    cases hn
    exact ⟨fun _ => rfl, slices _ _ _ 0 _ ⟨_, h1, hs, ha⟩ he⟩
  | slV h1 hs ha =>
    cases hn
    obtain rfl : k = 0 := by omega
    refine ⟨fun _ => rfl, [], fun d => ?_, by simp, ?_, ?_⟩
    · simp [Builtin.firstCells, loadCells, loadCellsFrom]
    · have he' : s.row _ (0 * size) = some new := he
      obtain ⟨c, _, h⟩ := ob_eq.1 he'
      obtain ⟨_, h⟩ := must_eq.1 h
      simp only [Nat.zero_mul, takeL_eq, List.take_zero, Option.some.injEq] at h
      subst h; exact .nil
    · have he' : s.row _ (0 * size) = some new := he
      obtain ⟨c, _, h⟩ := ob_eq.1 he'
      obtain ⟨_, h⟩ := must_eq.1 h
      simp only [Nat.zero_mul, takeL_eq, List.take_zero, Option.some.injEq] at h
      subst h; simp
  | _ => simp [lenOf] at hn

/-- The model's append where there is room. -/
theorem append_room {t tx ty e : TypeId} {i : TypeInfo} (ht : P.underlying t = some (.slice e)) (hi : P.info? e = some i) {b : Option Addr} {sLen sCap : Nat} {x : Value} {n : Nat} {news : List Value} (hs : Src P i.size tx x n news w)
    (hroom : sLen + n ≤ sCap) {w' : World} (hst : ∀ a, b = some a → (storeCells (a.add (sLen * i.size)) news).run P w = .ok () w') (hb : b = none → w' = w) :
    (Builtin.append_ #[t, tx] ty #[.slice b sLen sCap, x]).run P w = .ok (.slice b (sLen + n) sCap) w' := by
  cases b with
  | none =>
    rw [hb rfl]
    rcases hs.kind with ⟨e', hk⟩ | hk <;> simp [Builtin.append_, Go.run_underlying ht, Go.run_underlying hk, sizeOf, typeInfo, hi, hs.len, hroom, hs.cells]
  | some a =>
    have := hst a rfl
    rcases hs.kind with ⟨e', hk⟩ | hk <;> simp [Builtin.append_, Go.run_underlying ht, Go.run_underlying hk, sizeOf, typeInfo, hi, hs.len, hroom, hs.cells, this]

/-- What is appended, told by what the model's append does with it. -/
structure App (P : Program) (t tx ty e : TypeId) (i : TypeInfo) (z : Value) (x : Value) (n : Nat) (news : List Value) (w : World) : Prop where
  newsLen : news.length = n * i.size
  room : ∀ (b : Option Addr) (sLen sCap : Nat) (w' : World), sLen + n ≤ sCap → (∀ a, b = some a → (storeCells (a.add (sLen * i.size)) news).run P w = .ok () w') → (b = none → w' = w) → (Builtin.append_ #[t, tx] ty #[.slice b sLen sCap, x]).run P w = .ok (.slice b (sLen + n) sCap) w'
  grow : ∀ (b : Option Addr) (sLen sCap : Nat) (olds : List Value), (Builtin.firstCells i.size sLen (.slice b sLen sCap)).run P w.drew = .ok olds.toArray w.drew → 0 < n → sCap < sLen + n → ((sLen + n : Nat) : Int) ≤ 9223372036854775807 → (n * i.bytes ≤ 281474976710656) → Builtin.nextslicecap (sLen + n) sCap * i.bytes ≤ 281474976710656 →
    (Builtin.append_ #[t, tx] ty #[.slice b sLen sCap, x]).run P w = .ok (.slice (some ⟨w.heap.size, 0, none⟩) (sLen + n) (grownCap w (sLen + n) sCap e))
        (w.drew.alloc (.cells ((olds ++ news).toArray ++ Builtin.zeroCells z.cells (grownCap w (sLen + n) sCap e - (sLen + n))) e))
theorem App.src {t tx ty e : TypeId} {i : TypeInfo} {z : Value} (ht : P.underlying t = some (.slice e)) (hi : P.info? e = some i) (hz : i.zero = some z) {x : Value} {n : Nat} {news : List Value} (hs : Src P i.size tx x n news w) : App P t tx ty e i z x n news w :=
  ⟨hs.newsLen, fun b sLen sCap w' h1 h2 h3 => append_room ht hi hs h1 h2 h3, fun b sLen sCap olds hold _ hg h63 _ hfit => run_append_grow_src w t tx ty e i z ht hi hz b sLen sCap olds hold x n news hs hg h63 hfit⟩
theorem zeroCells_list {z : Array Value} {k : Nat} (hz : 0 < z.size) : (Builtin.zeroCells z k).toList = (List.replicate k z.toList).flatten := by
  have h2 : ((Array.range (k * z.size)).map fun i => z[i % z.size]!) = ⟨(List.replicate k z.toList).flatten⟩ := zeros_arr (z := z) (len := k) (n := z.size) rfl hz
  unfold Builtin.zeroCells
  rw [h2]
theorem App.zeros {t tx ty e : TypeId} {i : TypeInfo} {z : Value} (ht : P.underlying t = some (.slice e)) {kn : IntKind} (htn : P.underlying tx = some (.int kn)) (hi : P.info? e = some i) (hz : i.zero = some z) (hzs : z.cells.size = i.size) (hp : 0 < i.size) (kq : IntKind) (n : Nat)
    (h63 : n ≤ 9223372036854775807) (h48 : n * i.bytes ≤ 281474976710656) : App P t tx ty e i z (.int kq n) n (List.replicate n z.cells.toList).flatten w := by
  have hzl := zeroCells_list (z := z.cells) (k := n) (by omega)
  refine ⟨?_, ?_, ?_⟩
  · rw [← hzl]; simp [Builtin.zeroCells, hzs]
  · intro b sLen sCap w' h1 h2 h3
    have hw : IntKind.i64.wrap (n : Int) = n := by rw [IntKind.wrap_i64]; omega
    have hneg : ¬ ((n : Int) < 0) := by omega
    have h48i : ¬ (281474976710656 < (n : Int) * (i.bytes : Int)) := by
      rw [← Int.natCast_mul]
      omega
    have hzv : ∀ w0 : World, (zeroValue e).run P w0 = .ok z w0 := fun w0 => by simp [zeroValue, typeInfo, hi, hz, Result.andThen]
    have hza : Builtin.zeroCells z.cells n = ⟨(List.replicate n z.cells.toList).flatten⟩ := by apply Array.ext'; rw [hzl]
    have hp0 : i.size ≠ 0 := by omega
    by_cases h0 : n = 0
    · subst h0
      have hw0 : IntKind.i64.wrap 0 = 0 := by rw [IntKind.wrap_i64]; omega
      have h1' : sLen ≤ sCap := by simpa using h1
      cases b with
      | none =>
        rw [h3 rfl]
        simp [Builtin.append_, Go.run_underlying ht, Go.run_underlying htn, sizeOf, typeInfo, hi, Go.asInt, asIntOf, hw0, h1', Result.andThen]
      | some a =>
        have := h2 a rfl
        simp at this
        simp [Builtin.append_, Go.run_underlying ht, Go.run_underlying htn, sizeOf, typeInfo, hi, Go.asInt, asIntOf, hw0, h1', Result.andThen, this]
    · have hns : ¬ (n * i.size = 0) := Nat.mul_ne_zero h0 hp0
      cases b with
      | none =>
        rw [h3 rfl]
        simp [Builtin.append_, Go.run_underlying ht, Go.run_underlying htn, sizeOf, typeInfo, hi, Go.asInt, asIntOf, hw, hneg, h48i, h1, Result.andThen, hns, hzv]
      | some a =>
        have := h2 a rfl
        simp [Builtin.append_, Go.run_underlying ht, Go.run_underlying htn, sizeOf, typeInfo, hi, Go.asInt, asIntOf, hw, hneg, h48i, h1, Result.andThen, hns, hzv, hza, this]
  · intro b sLen sCap olds hold hn hg h63' h48' hfit
    have := Lib.run_append_grow_zeros w t tx ty e i z kq kn ht htn hi hz b sLen sCap olds hold n hn hp hg h63' h48' hfit
    rw [this]
    congr 3
    congr 1
    congr 1
    apply Array.ext'
    simp [hzl]

/-- A new row behind an append that grows. -/
theorem grown_new (r : Rel ι base s w) {E : TypeId} {l : List Value} {m z : List Value} (hl : LR ι l m) (hs : ∀ x ∈ l, scal x) {es cap need tg : Nat} (htg : esz tg = es) (hty : ety tg = 0 ∨ ety tg = E + 1) (hes : 0 < es) (hneed : l.length = need * es) (hcap : need ≤ cap) (hz : z.length = (cap - need) * es) {w' : World}
    (hw : w'.heap = w.heap.push (.cells ⟨m ++ z⟩ E)) (h1 : w'.os = w.os) (h2 : w'.tape = w.tape) (h3 : w'.output = w.output) (S : Nat → Prop) {md : Md} (hmd : md.grows = true) :
    ∃ κ, Ext S ι base s w κ (s.made l tg md) w' ∧ VR κ (sl s.next need) (.slice (some ⟨w.heap.size, 0, none⟩) need cap) := by
  obtain ⟨n1, n2⟩ := r.next s.next (Nat.le_refl _)
  have hr1 := (Ext.bump (S := S) r 1).rel
  have hle : ι.le (ι.put s.next ⟨w.heap.size, 0, (m ++ z).length, es⟩) := Inj.le_put _ n2
  have hlen : (m ++ z).length = cap * es := by
    rw [List.length_append, ← hl.length, hneed, hz, ← Nat.add_mul]; congr 1; omega
  have key := Ext.new hr1 s.next (.cells l tg md) (.cells ⟨m ++ z⟩ E) (m ++ z).length es (by simp) n1 n2 hw h1 h2 h3 rfl (by
    refine ⟨⟨m ++ z⟩, E, (0, 0), by rw [hw]; exact heap_push_get w _, ⟨rfl, ?_, ?_, ?_⟩, ⟨fun _ => ⟨htg.symm, by rw [htg]; exact hes⟩, hty.imp id fun h => ⟨h, fun _ => Nat.zero_le _, fun _ => Nat.zero_le _⟩⟩⟩
    · simp only [Nat.zero_add, List.length_append]; rw [hl.length]; omega
    · intro i x hx
      obtain ⟨y, hy, hv⟩ := hl.some hx
      refine ⟨hs x (List.mem_of_getElem? hx), y, ?_, hv.mono hle⟩
      simp only [Nat.zero_add, arr_get]
      rw [List.getElem?_append_left (List.getElem?_eq_some_iff.1 hy).1, hy]
    · cases md <;> first | (cases hmd; done) | (intro o _ _ h; simp at h))
  refine ⟨_, Ext.atNext key, ?_⟩
  refine .slO (B := ⟨w.heap.size, 0, (m ++ z).length, es⟩) (Inj.put_same _ _ _) rfl rfl ?_ hcap
  simp only [Nat.zero_add]; rw [hlen]

theorem zeroCells_len (z : Array Value) (k : Nat) : (Builtin.zeroCells z k).toList.length = k * z.size := by
  simp [Builtin.zeroCells]

/-- Behind a draw the world reads as it did. -/
theorem Rel.drewn (r : Rel ι base s w) (d : Nat) : Rel ι base s { w with drawn := d } := (Ext.drew (S := fun _ => False) r d).rel

/-- The arm that grows. -/
theorem append_grow (r : Rel ι base s w) {t tx ty e : TypeId} {i : TypeInfo} {z : Value} (ht : P.underlying t = some (.slice e)) (hi : P.info? e = some i) (hz : i.zero = some z) (hzs : z.cells.size = i.size) (hp : 0 < i.size) (hb : 0 < i.bytes)
    {b : Option Addr} {sLen sCap : Nat} {old olds : List Value} (hold : ∀ d, (Builtin.firstCells i.size sLen (.slice b sLen sCap)).run P { w with drawn := d } = .ok olds.toArray { w with drawn := d }) (hl1 : LR ι old olds) (hs1 : ∀ x ∈ old, scal x) (hn1 : old.length = sLen * i.size)
    {x : Value} {n : Nat} {new news : List Value} (hs : App P t tx ty e i z x n news w) (hn0 : 0 < n) (hl2 : LR ι new news) (hs2 : ∀ x ∈ new, scal x) (hg : sCap < sLen + n) (hroom : (sLen + n) * i.bytes ≤ room) {S : Nat → Prop} {md : Md} (hmd : md.grows = true) {tg : Nat} (htg : esz tg = i.size) (hty : ety tg = 0 ∨ ety tg = e + 1) :
    ∃ κ v' w', (Builtin.append_ #[t, tx] ty #[.slice b sLen sCap, x]).run P w = .ok v' w' ∧ Ext S ι base s w κ (s.made (old ++ new) tg md) w' ∧ VR κ (sl s.next (sLen + n)) v' := by
  have hneed : sLen + n ≤ (sLen + n) * i.bytes := Nat.le_mul_of_pos_right _ hb
  have hro : room = 140737488355328 := rfl
  have hrun := hs.grow b sLen sCap olds (hold (w.drawn + 1)) hn0 hg (by omega) (by have : n * i.bytes ≤ (sLen + n) * i.bytes := Nat.mul_le_mul_right _ (by omega); omega) (growslice_fits hg (by omega))
  have hge : sLen + n ≤ grownCap w (sLen + n) sCap e := cut_ge _ _ _ _
  have hlen2 := hs.newsLen
  obtain ⟨κ, h1, h2⟩ := grown_new (S := S) (r.drewn (w.drawn + 1)) (E := e) (l := old ++ new) (m := olds ++ news) (z := (Builtin.zeroCells z.cells (grownCap w (sLen + n) sCap e - (sLen + n))).toList) (hl1.append hl2)
    (fun y hy => (List.mem_append.1 hy).elim (hs1 y) (hs2 y)) (es := i.size) (cap := grownCap w (sLen + n) sCap e) (need := sLen + n) htg hty hp (by rw [List.length_append, hn1, hl2.length, hlen2, Nat.add_mul]) hge (by rw [zeroCells_len, hzs])
    (w' := w.drew.alloc (.cells ((olds ++ news).toArray ++ Builtin.zeroCells z.cells (grownCap w (sLen + n) sCap e - (sLen + n))) e)) (by
      show (w.heap.push _) = w.heap.push _
      congr 2
      apply Array.ext'
      simp) rfl rfl rfl hmd
  exact ⟨κ, _, _, hrun, (Ext.drew r (w.drawn + 1)).trans h1, h2⟩

theorem appendNew_ok (r : Rel ι base s w) {t tx ty e : TypeId} {i : TypeInfo} {z : Value} (ht : P.underlying t = some (.slice e)) (hi : P.info? e = some i) (hz : i.zero = some z) (hzs : z.cells.size = i.size) (hp : 0 < i.size) (hb : 0 < i.bytes)
    {X x : Value} (hx : VR ι X x) {y : Value} {n : Nat} {new news : List Value} (hs : App P t tx ty e i z y n news w) (hl2 : LR ι new news) (hs2 : ∀ x ∈ new, scal x) {v : Value} {s' : St} {tg : Nat} (htg : esz tg = i.size) (hty : ety tg = 0 ∨ ety tg = e + 1) (hsz : i.size < 65536) (h : appendNew tg i.size i.bytes s X n new = some (v, s')) (S : Nat → Prop) :
    ∃ κ v' w', (Builtin.append_ #[t, tx] ty #[x, y]).run P w = .ok v' w' ∧ Ext S ι base s w κ s' w' ∧ VR κ v v' := by
  obtain ⟨⟨a0, len, cap⟩, hX, H⟩ := ob_eq.1 h
  rw [asSl_eq hX] at hx
  have hlen2 := hs.newsLen
  have hl2' := hl2.length
  simp only at hx H
  rw [cnd_eq] at H
  split at H
  · -- nothing is appended
    rename_i h0
    rw [Nat.beq_eq] at h0
    subst h0
    cases H
    have hnil : news = [] := by
      have : news.length = 0 := by rw [hlen2]; omega
      exact List.eq_nil_of_length_eq_zero this
    subst hnil
    have hX2 := asSl_eq hX
    simp only at hX2
    subst hX2
    have key : ∃ b c, x = .slice b len c ∧ len ≤ c := by
      cases hx with
      | slN => exact ⟨_, _, rfl, Nat.le_refl _⟩
      | sl _ _ hle => exact ⟨_, _, rfl, hle⟩
      | slO _ _ _ _ hle => exact ⟨_, _, rfl, hle⟩
      | slV => exact ⟨_, _, rfl, Nat.le_refl _⟩
    obtain ⟨b, c, rfl, hle⟩ := key
    exact ⟨ι, _, w, hs.room _ _ _ _ (by omega) (fun _ _ => rfl) (fun _ => rfl), Ext.refl r, hx⟩
  · rename_i h0
    have hn0 : 0 < n := by rw [Nat.beq_eq] at h0; omega
    obtain ⟨h1, H⟩ := must_eq.1 H
    rw [Nat.ble_eq] at h1
    have hnl : new.length = n * i.size := by rw [hl2', hlen2]
    have hnpos : 0 < n * i.size := Nat.mul_pos hn0 hp
    cases a0 with
    | none =>
      cases H
      have : x = .slice none 0 0 ∧ len = 0 ∧ cap = 0 := by cases hx; exact ⟨rfl, rfl, rfl⟩
      obtain ⟨rfl, rfl, rfl⟩ := this
      have := append_grow (S := S) (md := .gr) (ty := ty) r ht hi hz hzs hp hb (b := none) (sLen := 0) (sCap := 0) (old := []) (olds := []) (fun d => by simp [Builtin.firstCells]) .nil (by simp) (by simp) hs hn0 hl2 hs2 (by omega) h1 rfl htg hty
      simpa using this
    | some a =>
      have H : appendAt tg i.size s X a len cap n new = some (v, s') := H
      unfold appendAt at H
      rw [cnd_eq] at H
      split at H
      · -- the capacity is not known
        rename_i hc
        rw [Nat.beq_eq] at hc
        subst hc
        obtain ⟨⟨cs, es, md⟩, hg1, H⟩ := ob_eq.1 H
        have hg := asCells_eq hg1
        simp only at H hg
        rw [cnd_eq, lenL_eq] at H
        -- what is in the world
        have key : ∃ a' c B, x = .slice (some a') len c ∧ ι a.block = some B ∧ a.spot = none ∧ len ≤ c ∧ ((a' = ⟨B.b, B.sh + a.off, none⟩ ∧ B.sh + a.off + c * B.es = B.n) ∨ (c = 0 ∧ len = 0 ∧ B.sh + a.off = B.n)) := by
          cases hx with
          | sl _ hc _ => exact absurd hc (by simp)
          | slO hB hsp ha hcap hle => exact ⟨_, _, _, rfl, hB, hsp, hle, .inl ⟨ha, by rw [ha] at hcap; exact hcap⟩⟩
          | slV hB hsp ha => exact ⟨_, _, _, rfl, hB, hsp, Nat.le_refl _, .inr ⟨rfl, rfl, ha⟩⟩
        obtain ⟨a', c, B, rfl, hB, hsp, hlc, hcase⟩ := key
        obtain ⟨cs', T, fr, w1, ⟨w2, w3, w4, w5⟩, w6⟩ := r.cells hg hB
        split at H
        · -- at the end of what is known
          rename_i hend
          rw [Nat.beq_eq] at hend
          obtain ⟨hmd, H⟩ := must_eq.1 H
          obtain ⟨hes, H⟩ := must_eq.1 H
          rw [Nat.beq_eq] at hes
          obtain ⟨es2, he2, he3, he4⟩ : ∃ es2, cnd (Nat.beq es tg) es i.size = es2 ∧ esz es2 = i.size ∧ ((es2 = es ∧ es = tg) ∨ ety es2 = 0) := by
            refine ⟨_, rfl, ?_⟩
            rw [cnd_eq]
            split
            · rename_i hh; rw [Nat.beq_eq] at hh; exact ⟨hes, .inl ⟨rfl, hh⟩⟩
            · refine ⟨Nat.mod_eq_of_lt hsz, .inr (Nat.div_eq_of_lt hsz)⟩
          rw [he2] at H
          cases H
          obtain ⟨hBe, _⟩ := w6.1 hmd
          rw [hes] at hBe
          rw [hBe] at hcase
          have hown : owned (Ob.cells cs es md) = true := by cases md <;> first | (cases hmd; done) | rfl
          simp only [appL_eq, dropL_eq]
          by_cases hroom : len + n ≤ c
          · -- there is room: the row goes on where it lies
            rcases hcase with ⟨rfl, hcap⟩ | ⟨hc0, _, _⟩
            · have hfits : B.sh + a.off + len * i.size + n * i.size ≤ B.n := by
                have := Nat.mul_le_mul_right i.size hroom
                rw [Nat.add_mul] at this
                omega
              have hfree : ∀ o, B.sh + a.off + len * i.size + 0 ≤ o → o < B.sh + a.off + len * i.size + 0 + news.length → ¬ (fr.1 ≤ o ∧ o < fr.2) := by
                intro o ho1 ho2
                cases md with
                | gr => exact w5 o (by omega) (by omega)
                | fz => exact w5 o (by omega) (by omega)
                | _ => cases hmd
              obtain ⟨w', k1, k2⟩ := run_storeCells (P := P) (off := B.sh + a.off + len * i.size) news 0 w cs' w1 (by omega) (hl2.scal hs2) hfree
              have hrun := hs.room (some ⟨B.b, B.sh + a.off, none⟩) len c w' hroom (by
                intro a0 h0; cases h0; rw [addr_add]; exact k1) (by intro h; cases h)
              have hn2 := (r.next s.next (Nat.le_refl _)).2
              have hle' : ι.le (ι.put s.next ⟨B.b, B.sh + a.off, B.n, i.size⟩) := Inj.le_put _ hn2
              have hsh : (⟨B.b, B.sh + a.off, B.n, i.size⟩ : Blk).sh = B.sh + a.off := rfl
              refine ⟨_, _, w', hrun, Ext.move r a.block _ _ B ⟨B.b, B.sh + a.off, B.n, i.size⟩ hg hown (by cases md <;> first | (cases hmd; done) | rfl) hB rfl k2.size k2.old k2.os k2.tape k2.output ?_, ?_⟩
              · refine ⟨_, T, fr, k2.at_, ⟨?_, ?_, ?_, ?_⟩, ⟨fun _ => ⟨he3.symm, by rw [he3]; exact hp⟩, ?_⟩⟩
                · show (splice cs'.toList _ news).length = B.n
                  rw [splice_length _ _ _ (by simp; omega)]; simpa using w2
                · simp only [List.length_append, List.length_drop]; omega
                · intro j xv hj
                  rw [arr_get, splice_get _ _ _ (by simp; omega)]
                  by_cases hjl : j < cs.length - a.off
                  · rw [List.getElem?_append_left (by simpa using hjl), List.getElem?_drop] at hj
                    rw [if_neg (by omega), Array.getElem?_toList]
                    obtain ⟨q1, q2, q3, q4⟩ := w4 _ _ hj
                    exact ⟨q1, q2, by rw [← q3]; congr 1; omega, q4.mono hle'⟩
                  · rw [List.getElem?_append_right (by simpa using hjl), List.length_drop] at hj
                    have hj2 := (List.getElem?_eq_some_iff.1 hj).1
                    obtain ⟨q, q3, q4⟩ := hl2.some hj
                    rw [if_pos (by omega)]
                    refine ⟨hs2 xv (List.mem_of_getElem? hj), q, ?_, q4.mono hle'⟩
                    rw [← q3]; congr 1; omega
                · cases md with
                  | gr => intro o ho1 ho2; exact w5 o (by omega) ho2
                  | fz =>
                    intro o ho1 ho2
                    simp only [List.length_append, List.length_drop] at ho1
                    exact w5 o (by omega) ho2
                  | _ => cases hmd
                · rcases he4 with ⟨rfl, _⟩ | h0
                  · refine w6.2.imp id fun ⟨q1, q2, q3⟩ => ⟨q1, fun hh => ?_, fun hh => ?_⟩
                    · have := q2 hh; simp only; omega
                    · have := q3 hh; simp only [List.length_append, List.length_drop]; omega
                  · exact .inl h0
              · exact .slO (B := ⟨B.b, B.sh + a.off, B.n, i.size⟩) (Inj.put_same _ _ _) rfl rfl hcap hroom
            · omega
          · -- there is none: a new row
            have hd := Ext.drop (S := S) r a.block _ B hg hown hB
            have holds : ∃ olds : List Value, (∀ d, (Builtin.firstCells i.size len (.slice (some a') len c)).run P { w with drawn := d } = .ok olds.toArray { w with drawn := d }) ∧ LR ι (cs.drop a.off) olds ∧ (∀ y ∈ cs.drop a.off, scal y) ∧ (cs.drop a.off).length = len * i.size := by
              have hlen3 : (cs.drop a.off).length = len * i.size := by simp; omega
              rcases hcase with ⟨rfl, hcap⟩ | ⟨hc0, hl0, _⟩
              · have hrow : s.row a (len * i.size) = some (cs.drop a.off) := by
                  unfold St.row
                  rw [hg1]
                  simp only [ob_some, lenL_eq, takeL_eq, dropL_eq]
                  rw [must_eq]
                  refine ⟨by rw [Nat.ble_eq]; omega, ?_⟩
                  rw [List.take_of_length_le (by omega)]
                obtain ⟨g1, g2, q, g3, g4⟩ := r.row (a' := ⟨B.b, B.sh + a.off, none⟩) ⟨B, hB, hsp, rfl⟩ hrow
                refine ⟨q, fun d => ?_, g3, g2, hlen3⟩
                have : (loadCells ⟨B.b, B.sh + a.off, none⟩ (len * i.size)).run P { w with drawn := d } = .ok ⟨q⟩ { w with drawn := d } := run_loadCells (by rw [← g3.length, g1]) g4
                simpa [Builtin.firstCells] using this
              · subst hl0
                have : cs.drop a.off = [] := List.eq_nil_of_length_eq_zero (by omega)
                rw [this]
                exact ⟨[], fun d => by simp [Builtin.firstCells, loadCells, loadCellsFrom], .nil, by simp, by simp⟩
            obtain ⟨olds, o1, o2, o3, o4⟩ := holds
            obtain ⟨κ, v', w', e1, e2, e3⟩ := append_grow (S := S) (md := md) (ty := ty) hd.rel ht hi hz hzs hp hb o1 o2 o3 o4 hs hn0 hl2 hs2 (by omega) h1 hmd he3 (he4.elim (fun ⟨q1, q2⟩ => by rw [q1, q2]; exact hty) .inl)
            exact ⟨κ, v', w', e1, hd.trans e2, e3⟩
        · -- within what is known
          rename_i hend
          rw [Nat.beq_eq] at hend
          obtain ⟨hes, H1⟩ := must_eq.1 H
          obtain ⟨hmd, H2⟩ := must_eq.1 H1
          clear H H1
          rw [Nat.beq_eq] at hes
          obtain ⟨s2, hput, H3⟩ := om_eq.1 H2
          cases H3
          obtain ⟨hBe, _⟩ := w6.1 hmd
          rw [hes] at hBe
          rw [hBe] at hcase
          have hbnd : a.off + len * i.size + n * i.size ≤ cs.length := by
            obtain ⟨c2, hc2, hput2⟩ := ob_eq.1 hput
            obtain ⟨_, hput2⟩ := must_eq.1 hput2
            obtain ⟨hput3, _⟩ := must_eq.1 hput2
            have hblk : (a.add (len * i.size)).block = a.block := by unfold Addr.add; split <;> rfl
            have hoff : (a.add (len * i.size)).off = a.off + len * i.size := by unfold Addr.add; split <;> simp_all
            rw [hblk, hg1] at hc2
            cases hc2
            rw [Nat.ble_eq, lenL_eq, lenL_eq, hoff] at hput3
            simp only at hput3; omega
          rcases hcase with ⟨rfl, hcap⟩ | ⟨hc0, hl0, hn0'⟩
          · have hroom : len + n ≤ c := by
              have : (len + n) * i.size ≤ c * i.size := by rw [Nat.add_mul]; omega
              exact Nat.le_of_mul_le_mul_right this hp
            have hAR : AR ι a ⟨B.b, B.sh + a.off, none⟩ := ⟨B, hB, hsp, rfl⟩
            obtain ⟨w', k1, k2⟩ := put_ok (P := P) r (hAR.add (len * i.size)) hl2 hs2 hput S
            have hrun := hs.room (some ⟨B.b, B.sh + a.off, none⟩) len c w' hroom (by
                intro a0 h0; cases h0; exact k1) (by intro h; cases h)
            exact ⟨ι, _, w', hrun, k2, .slO hB hsp rfl (by rw [hBe]; exact hcap) hroom⟩
          · omega
      · rename_i hc
        rw [Nat.beq_eq] at hc
        have key : ∃ a', x = .slice (some a') len cap ∧ AR ι a a' ∧ cap < open_ ∧ len ≤ cap := by
          cases hx with
          | sl h1 h2 h3 => exact ⟨_, rfl, h1, h2, h3⟩
          | slO => exact absurd rfl hc
          | slV => exact absurd rfl hc
        obtain ⟨a', rfl, hAR, hclt, hle⟩ := key
        rw [cnd_eq] at H
        split at H
        · rename_i hroom
          rw [Nat.ble_eq] at hroom
          obtain ⟨s2, hput, H⟩ := om_eq.1 H
          cases H
          obtain ⟨w', k1, k2⟩ := put_ok (P := P) r (hAR.add (len * i.size)) hl2 hs2 hput S
          have hrun := hs.room (some a') len cap w' hroom (by intro a0 h0; cases h0; exact k1) (by intro h; cases h)
          exact ⟨ι, _, w', hrun, k2, .sl hAR hclt hroom⟩
        · rename_i hroom
          rw [Nat.ble_eq] at hroom
          obtain ⟨old, hold, H⟩ := om_eq.1 H
          cases H
          obtain ⟨_, olds, o1, o2, o3, o4⟩ := firstCells_ok (P := P) r hx (n := len) rfl (Nat.le_refl _) (by rw [← asSl_eq hX]; exact hold)
          have := append_grow (S := S) (md := .gr) (ty := ty) r ht hi hz hzs hp hb o1 o3 o4 (by rw [o3.length, o2]) hs hn0 hl2 hs2 (by omega) h1 rfl htg hty
          simpa using this
end
end Go.Ev
