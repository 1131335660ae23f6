/-
  The single steps that the page laws lean on, the numbers of their functions, and the state they start in.
-/
import Derived.Test.YtoinadgkjnbejaaDoorTie
import Derived.Test.YtoinadgkjnbejaaDoorCards
import Derived.Test.YtoinadgkjnbejaaDoorPgSh
import Derived.Test.YtoinadgkjnbejaaDoorPgCode
import Derived.Test.YtoinadgkjnbejaaDoorPgStart
import Derived.Test.YtoinadgkjnbejaaDoorEvPart2

import Derived.Carry
import Derived.Stop.LaidErr
set_option linter.unusedVariables false
namespace Go.Proofs.YtoinadgkjnbejaaDoor
open Go Go.Ev Go.ChangeShapes Go.WideShapes Go.ChangeAt Go.RowKit
theorem own : ownKnob Tryd.prog.godebug = none := by kernel_rfl
theorem named : namedB Tryd.prog = true := by kernel_rfl
theorem globsThere : globsB Tryd.prog = true := by kernel_rfl
theorem mixed : Tryd.prog.follows .mixedOrders = true := by kernel_rfl
theorem globals8 : Tryd.prog.globals.size = 8 := by kernel_rfl
theorem p_itoa : IsPrim Tryd.prog 44 (pItoa 0) := isPrim_itoa Tryd.itoaA (fun args w => Tryd.call44 args w) (by kernel_rfl) (by rw [globals8]; decide) (by kernel_rfl)
theorem p_atoi : IsPrim Tryd.prog 73 (pAtoi 2 3 (Tryd.atoiA_ren.t 168)) := isPrim_atoi Tryd.atoiA (fun args w => Tryd.call73 args w) (by rw [globals8]; decide) (by rw [globals8]; decide)
theorem p_split : IsPrim Tryd.prog 58 (pSplit 1 9) := isPrim_split Tryd.splitA (fun args w => Tryd.call58 args w) (by rw [globals8]; decide)
set_option maxRecDepth 100000 in
theorem p_cutP : IsPrim Tryd.prog 59 pCutPrefix := isPrim_cutPrefix Tryd.cutPrefixA (fun args w => Tryd.call59 args w)
set_option maxRecDepth 100000 in
theorem p_cutS : IsPrim Tryd.prog 57 pCutSuffix := isPrim_cutSuffix Tryd.cutSuffixA (fun args w => Tryd.call57 args w)
set_option maxRecDepth 100000 in
theorem p_hasP : IsPrim Tryd.prog 62 pHasPrefix := isPrim_hasPrefix Tryd.hasPrefixA (fun args w => Tryd.call62 args w)
theorem p_noEsc : IsPrim Tryd.prog 87 pSame := isPrim_same (fn := Tryd.f87) ⟨Tryd.func87, by kernel_rfl, by kernel_rfl, by kernel_rfl, by kernel_rfl⟩
noncomputable def prims : List (FuncId × Prim) := [(44, pItoa 0), (73, pAtoi 2 3 (Tryd.atoiA_ren.t 168)), (58, pSplit 1 9), (59, pCutPrefix), (57, pCutSuffix), (62, pHasPrefix), (87, pSame)]
theorem prims_ok : ∀ x ∈ prims, IsPrim Tryd.prog x.1 x.2 := by
  intro x hx
  simp only [prims, List.mem_cons, List.not_mem_nil, or_false] at hx
  rcases hx with rfl | rfl | rfl | rfl | rfl | rfl | rfl
  · exact p_itoa
  · exact p_atoi
  · exact p_split
  · exact p_cutP
  · exact p_cutS
  · exact p_hasP
  · exact p_noEsc
noncomputable abbrev EE : Env := envOf Tryd.prog prims
theorem lib : Prims EE := ⟨rfl, ⟨_, rfl⟩, rfl, rfl, rfl, rfl, rfl⟩
theorem codes : Codes EE := { tithinglaw14_PageBack := ⟨by kernel_rfl, by kernel_rfl⟩, tithinglaw14_long := ⟨by kernel_rfl, by kernel_rfl⟩, tithinglaw14_Awake := ⟨by kernel_rfl, by kernel_rfl⟩, page_Parse := ⟨by kernel_rfl, by kernel_rfl⟩, page_Count := ⟨by kernel_rfl, by kernel_rfl⟩, page_Format := ⟨by kernel_rfl, by kernel_rfl⟩, page_Valid := ⟨by kernel_rfl, by kernel_rfl⟩, page_Pick := ⟨by kernel_rfl, by kernel_rfl⟩, page_Reverse := ⟨by kernel_rfl, by kernel_rfl⟩, page_parse := ⟨by kernel_rfl, by kernel_rfl⟩, page_clone := ⟨by kernel_rfl, by kernel_rfl⟩, page_format := ⟨by kernel_rfl, by kernel_rfl⟩, page_Same := ⟨by kernel_rfl, by kernel_rfl⟩, slices_ContainsFunc_int_int := ⟨by kernel_rfl, by kernel_rfl⟩, page_Pick_1 := ⟨by kernel_rfl, by kernel_rfl⟩, page_pick := ⟨by kernel_rfl, by kernel_rfl⟩, page_lines := ⟨by kernel_rfl, by kernel_rfl⟩, slices_Index_string_string := ⟨by kernel_rfl, by kernel_rfl⟩, page_comment := ⟨by kernel_rfl, by kernel_rfl⟩, page_body := ⟨by kernel_rfl, by kernel_rfl⟩, slices_ContainsFunc_string_string := ⟨by kernel_rfl, by kernel_rfl⟩, page_parse_1 := ⟨by kernel_rfl, by kernel_rfl⟩, slices_Clone_string_string := ⟨by kernel_rfl, by kernel_rfl⟩, slices_Concat_string_string := ⟨by kernel_rfl, by kernel_rfl⟩, page_text := ⟨by kernel_rfl, by kernel_rfl⟩, slices_Equal_string_string := ⟨by kernel_rfl, by kernel_rfl⟩, slices_EqualFunc_string_string_string_string := ⟨by kernel_rfl, by kernel_rfl⟩, slices_IndexFunc_int_int := ⟨by kernel_rfl, by kernel_rfl⟩, page_told := ⟨by kernel_rfl, by kernel_rfl⟩, page_isNumber := ⟨by kernel_rfl, by kernel_rfl⟩, page_isName := ⟨by kernel_rfl, by kernel_rfl⟩, slices_IndexFunc_string_string := ⟨by kernel_rfl, by kernel_rfl⟩, slices_Grow_string_string := ⟨by kernel_rfl, by kernel_rfl⟩, _strings_Builder_WriteString := ⟨by kernel_rfl, by kernel_rfl⟩, _strings_Builder_copyCheck := ⟨by kernel_rfl, by kernel_rfl⟩, _strings_Builder_String := ⟨by kernel_rfl, by kernel_rfl⟩ }
theorem star : "*" ++ "errors.errorString" = "*errors.errorString" := by decide
theorem row138 (u : TypeId) (h : Tryd.prog.typeName? 3 u = some "*errors.errorString") : u = 138 :=
  typeName_ptr_named (nm := "errors.errorString") (by rw [star]; kernel_rfl) (by kernel_rfl) (by decide) u (by rw [star]; exact h)
theorem started {W : World} (hs : W.ShapedOpen Tryd.prog) (hl : laidMetH Tryd.prog Rows.pageParsesRow.laid W) : ∃ m a b, Starts Tryd.prog W m 138 a b := by
  rw [MakeChecks.laidMetH_plain _ _ _ (by kernel_rfl)] at hl
  have t0 : Lib.TabIs Tryd.prog W "internal/strconv.uint64pow10" .u64 Lib.pow10Tab := Lib.tabIs_of_head (g := 0) (t := 119) (e := 101) (n := 20) (by kernel_rfl) (by kernel_rfl) (by kernel_rfl) (by kernel_rfl) (by kernel_rfl) (by kernel_rfl) hl.tail.tail
  obtain ⟨b, s1, v1, c1, -, -⟩ := laid_sentinel hl.tail.tail.tail.tail (g := 3) (ti := 90) (te := 140) (ts := 9) (by kernel_rfl) (by kernel_rfl) Tryd.underlying90 row138 Tryd.underlying138 Tryd.underlying140 rfl rfl Tryd.underlying9 (by kernel_rfl) (by kernel_rfl)
  obtain ⟨a, s2, v2, c2, -, -⟩ := laid_sentinel hl.tail.tail.tail.tail.tail (g := 2) (ti := 90) (te := 140) (ts := 9) (by kernel_rfl) (by kernel_rfl) Tryd.underlying90 row138 Tryd.underlying138 Tryd.underlying140 rfl rfl Tryd.underlying9 (by kernel_rfl) (by kernel_rfl)
  obtain ⟨m, hm⟩ := Tryd.splitA.s1_3 W hs
  obtain ⟨T0, f0, h0⟩ := var_at (g := 0) (by kernel_rfl) t0
  obtain ⟨T1, f1, h1⟩ := shape_one hs (g := 1) (by rw [globals8]; decide) (z := (#[.int .i64 0], 3)) (by kernel_rfl) hm rfl
  obtain ⟨T2, f2, h2⟩ := var_at (g := 2) (by kernel_rfl) v2
  obtain ⟨T3, f3, h3⟩ := var_at (g := 3) (by kernel_rfl) v1
  have hsz : 8 ≤ W.heap.size := globals8 ▸ globs_size globsThere hs
  exact ⟨m, a, b, hsz, ⟨T0, f0, h0⟩, ⟨T1, f1, h1⟩, ⟨T2, f2, h2⟩, ⟨T3, f3, h3⟩, ⟨_, c2⟩, ⟨_, c1⟩⟩
set_option maxRecDepth 100000 in
theorem text_calls {W : World} (hs : W.ShapedOpen Tryd.prog) (hl : laidMetH Tryd.prog Rows.pageParsesRow.laid W) (f : FuncId) (b : ByteArray)
    (run : ∀ s : St, Gl s → Cv EE f [Ev.strOf b.data.toList] s fun r _ => r = .bool true) : Calls Tryd.prog f #[.string b] W fun e w' => e = .returned (.bool true) ∧ Below W.heap.size W w' := by
  obtain ⟨m, a, c, hS⟩ := started hs hl
  obtain ⟨k, hk⟩ := (run _ (start_gl (m := m) (tp := 138) (w := W) (a := a) (b := c))).says
  exact calls_true (envOf_ok prims_ok) mixed named (start_globs globals8 (by kernel_rfl) (by kernel_rfl) (by kernel_rfl) (by kernel_rfl)) (start_rel hS) (.cons (.string b) .nil) hk
end Go.Proofs.YtoinadgkjnbejaaDoor
