/-
  A slice of items among the arguments, opened.
-/
import Derived.Test.YtmpckglmfklfiaaGreatDoorEvPart3
import Derived.Test.YtmpckglmfklfiaaGreatDoorCdPutReply
set_option linter.unusedVariables false
set_option linter.unusedSimpArgs false
namespace Go.Ev
open Go Go.ChangeShapes Go.WideShapes Go.ChangeAt Go.RowKit
noncomputable section
section
variable {P : Program} {w : World} {H : Type} {enc : TypeId × Value → H} {fuel base n : Nat} {t e : TypeId} {v : Value} {d : DataW H} {p : List MemPlace}
theorem drop_one {cs : List Value} {j : Nat} {y z : Value} (h : (cs.drop j).take 1 = [y]) (hz : cs[j]? = some z) : z = y := by
  have e : ((cs.drop j).take 1)[0]? = some z := by rw [List.getElem?_take_of_lt (by decide), List.getElem?_drop]; exact hz
  rw [h] at e
  exact (Option.some.inj e).symm
def itemQ (j : Nat) (y : Value) : Prop := match j with
  | 0 => ∃ z, y = .int .i64 z
  | 1 => ∃ z, y = .int .i64 z
  | 2 => ∃ b : ByteArray, y = .string b
  | _ => ∃ b, y = .bool b
theorem items_arg {fs : Array Field} {f0 f1 f2 f3 : Field} {bytes : Nat} (ht : P.underlying t = some (.slice e)) (he : P.underlying e = some (.struct fs)) (hc : P.cellsOf e = 4) (hb : P.bytesOf e = bytes) (hb0 : 0 < bytes)
    (h0 : fs[0]? = some f0) (h1 : fs[1]? = some f1) (h2 : fs[2]? = some f2) (h3 : fs[3]? = some f3)
    (o0 : f0.offset = 0) (o1 : f1.offset = 1) (o2 : f2.offset = 2) (o3 : f3.offset = 3)
    (c0 : P.cellsOf f0.type = 1) (c1 : P.cellsOf f1.type = 1) (c2 : P.cellsOf f2.type = 1) (c3 : P.cellsOf f3.type = 1)
    (u0 : P.underlying f0.type = some (.int .i64)) (u1 : P.underlying f1.type = some (.int .i64)) (u2 : P.underlying f2.type = some .string) (u3 : P.underlying f3.type = some .bool)
    (hv : Cell.okWide P w .any base t v)
    (hf : DataW.trod enc P w 0 (fun _ => true) true fuel t [v] = some (d, p)) (hw : ∀ x ∈ DataW.weights P t d, x ≤ reachBytes) :
    ∃ its : List ItemC, its.length * bytes ≤ reachBytes ∧ Opens w n v fun s x => Sl s s.next 4 x (itemsC its) := by
  obtain ⟨m, ys, k1, k2, k3, k4⟩ := slice_arg (n := n) (Q := itemQ) ht hc hb hb0 hv hf hw (fun fuel cs x h => by
    obtain ⟨xs, m, _, rfl, hl, hxl, hall⟩ := DataW.trod_struct he h
    refine ⟨hl.trans hc, fun j y hy => ?_⟩
    have hj : j < 4 := by have := (List.getElem?_eq_some_iff.1 hy).1; omega
    have sz : 3 < fs.size := (Array.getElem?_eq_some_iff.1 h3).1
    match j, hj with
    | 0, _ =>
      have a := hall 0 f0 h0
      rw [o0, c0, List.getElem?_eq_getElem (show 0 < xs.length by omega)] at a
      obtain ⟨z, hz, -⟩ := DataW.trod_int u0 a
      exact ⟨z, drop_one hz hy⟩
    | 1, _ =>
      have a := hall 1 f1 h1
      rw [o1, c1, List.getElem?_eq_getElem (show 1 < xs.length by omega)] at a
      obtain ⟨z, hz, -⟩ := DataW.trod_int u1 a
      exact ⟨z, drop_one hz hy⟩
    | 2, _ =>
      have a := hall 2 f2 h2
      rw [o2, c2, List.getElem?_eq_getElem (show 2 < xs.length by omega)] at a
      obtain ⟨z, hz, -⟩ := DataW.trod_string u2 a
      exact ⟨z, drop_one hz hy⟩
    | 3, _ =>
      have a := hall 3 f3 h3
      rw [o3, c3, List.getElem?_eq_getElem (show 3 < xs.length by omega)] at a
      obtain ⟨z, hz, -⟩ := DataW.trod_bool u3 a
      exact ⟨z, drop_one hz hy⟩) (by
    intro j y hq
    match j, hq with
    | 0, ⟨z, h⟩ => rw [h]; exact vr_int _ _
    | 1, ⟨z, h⟩ => rw [h]; exact vr_int _ _
    | 2, ⟨z, h⟩ => rw [h]; exact vr_str _
    | _ + 3, ⟨z, h⟩ => rw [h]; exact vr_bool _)
  have hex : ∀ i, i < m → ∃ x : ItemC, ∀ j, j < 4 → ys[i * 4 + j]? = x.cells[j]? := by
    intro i hi
    obtain ⟨y0, g0, z0, rfl⟩ := k2 i 0 hi (by decide)
    obtain ⟨y1, g1, z1, rfl⟩ := k2 i 1 hi (by decide)
    obtain ⟨y2, g2, z2, rfl⟩ := k2 i 2 hi (by decide)
    obtain ⟨y3, g3, z3, rfl⟩ := k2 i 3 hi (by decide)
    refine ⟨⟨z0, z1, z2.data.toList, z3⟩, fun j hj => ?_⟩
    match j, hj with
    | 0, _ => exact g0
    | 1, _ => exact g1
    | 2, _ => exact g2
    | 3, _ => exact g3
  haveI : Inhabited ItemC := ⟨⟨0, 0, [], false⟩⟩
  obtain ⟨C, hC⟩ := Go.Deep.choose_lt (α := ItemC) hex
  have e : ys = itemsC ((List.range m).map C) := by
    have hlen : (itemsC ((List.range m).map C)).length = m * 4 := by rw [itemsC_length]; simp
    apply List.ext_getElem?
    intro i
    by_cases hi : i < m * 4
    · have hi4 : i / 4 < m := by omega
      have ei : i = i / 4 * 4 + i % 4 := by omega
      have h := hC (i / 4) hi4 (i % 4) (by omega)
      rw [← ei] at h
      rw [h]
      have hg := itemsC_get (l := (List.range m).map C) (i := i / 4) (by simpa using hi4)
      rw [List.getElem_map, List.getElem_range] at hg
      rw [← hg, List.getElem?_take_of_lt (by omega), List.getElem?_drop, ← ei]
    · rw [List.getElem?_eq_none (by omega), List.getElem?_eq_none (by omega)]
  refine ⟨(List.range m).map C, by simpa using k3, k4.mono fun s x h => ?_⟩
  rw [← e]
  exact h.1
end
end
end Go.Ev
