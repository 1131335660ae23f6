/-
  The infos of rights, and the rights of infos: for all rights and all bytes. The card is tied.
-/
import Derived.Test.YtddfilkdiomldaaGreatDoorTie
import Derived.Test.YtddfilkdiomldaaGreatDoorCards
import Derived.Test.YtddfilkdiomldaaGreatDoorSrRun
import Derived.Test.YtddfilkdiomldaaGreatDoorSrIns
import Derived.Test.YtddfilkdiomldaaGreatDoorSrSh
import Derived.Test.YtddfilkdiomldaaGreatDoorSrFacts
import Derived.Test.YtddfilkdiomldaaGreatDoorSrWalk
import Derived.Test.YtddfilkdiomldaaGreatDoorEvPart3
import Derived.ChangeSlices
import Derived.Carry
set_option linter.unusedVariables false
namespace Go.Proofs.YtddfilkdiomldaaGreatDoor
open Go Go.Ev Go.ChangeShapes Go.WideShapes Go.ChangeAt Go.RowKit
open Go.ChangeMaps (open_string shut_string)

theorem own : ownKnob Tryz.prog.godebug = none := by kernel_rfl
open Go.Proofs Go.Shelf in
theorem sorts (m : Nat) : AnyZI.SortsIn Tryz.prog Tryz.sortedA_ren Fence.wide m :=
  ⟨fun blk off cap ss W hH hblk hsz => callsIn_wide.2 (AnyM.slices_Sort_int Tryz.sortA blk off cap ss W hH hblk hsz),
   fun p cap W => callsIn_wide.2 (AnyM.slices_Sort_int_none Tryz.sortA p cap W)⟩
theorem isPrim_sorted : IsPrim Tryz.prog 71 (pSortedKeys [123] (tag 3 1)) :=
  isPrim_sortedKeys Tryz.sortedA sorts (fun args w => Tryz.call122 args w) (fun g hg => by
    obtain rfl : g = 123 := by simpa using hg
    exact ⟨Tryz.keysA_ren, Tryz.keysA, rfl, fun args w => Tryz.call123 args w⟩)
theorem mixed : Tryz.prog.follows .mixedOrders = true := by kernel_rfl
theorem named : namedB Tryz.prog = true := by kernel_rfl
theorem primsA_ok : ∀ x ∈ ([] : List (FuncId × Prim)), IsPrim Tryz.prog x.1 x.2 := by intro x hx; cases hx
theorem isPrim_cloneA : IsPrim Tryz.prog 74 pMapsClone := by
  have h := isPrim_clone Tryz.cloneA
  have e : Tryz.cloneA_ren.f 5 = 74 := by kernel_rfl
  rwa [e] at h
theorem isPrim_cloneB : IsPrim Tryz.prog 295 pMapsClone := by
  have h := isPrim_clone Tryz.cloneB
  have e : Tryz.cloneB_ren.f 5 = 295 := by kernel_rfl
  rwa [e] at h
theorem prims0_ok : ∀ x ∈ prims0, IsPrim Tryz.prog x.1 x.2 := by
  intro x hx
  simp only [prims0, List.mem_cons, List.not_mem_nil, or_false] at hx
  rcases hx with rfl | rfl | rfl | rfl | rfl | rfl | rfl
  · exact isPrim_sum (envOf_ok primsA_ok) mixed named (by kernel_rfl)
  · exact isPrim_compare (fn := Tryz.f321) ⟨Tryz.func321, by kernel_rfl, by kernel_rfl, by kernel_rfl, by kernel_rfl⟩
  · exact isPrim_indexByteString (fn := Tryz.f343) ⟨Tryz.func343, by kernel_rfl, by kernel_rfl, by kernel_rfl, by kernel_rfl⟩
  · exact isPrim_ins
  · exact isPrim_sorted
  · exact isPrim_cloneA
  · exact isPrim_cloneB
theorem globsThere : globsB Tryz.prog = true := by kernel_rfl
theorem prims_ok : ∀ x ∈ prims, IsPrim Tryz.prog x.1 x.2 := by
  intro x hx
  simp only [prims, List.mem_cons, List.not_mem_nil, or_false] at hx
  subst hx
  exact isPrim_true (envOf_ok prims0_ok) mixed named first_run

noncomputable abbrev EE : Env := envOf Tryz.prog prims
theorem codes : Codes EE := { tithinglaw25_ServerRights := ⟨by kernel_rfl, by kernel_rfl⟩, server_PutRights := ⟨by kernel_rfl, by kernel_rfl⟩, tithingref25_PutRights := ⟨by kernel_rfl, by kernel_rfl⟩, server_GetRights := ⟨by kernel_rfl, by kernel_rfl⟩, tithingref25_GetRights := ⟨by kernel_rfl, by kernel_rfl⟩, octet_Put := ⟨by kernel_rfl, by kernel_rfl⟩, rights_Valid := ⟨by kernel_rfl, by kernel_rfl⟩, slices_Concat_byte_byte := ⟨by kernel_rfl, by kernel_rfl⟩, tithingref21_Valid := ⟨by kernel_rfl, by kernel_rfl⟩, tithingref25_four := ⟨by kernel_rfl, by kernel_rfl⟩, octet_Get := ⟨by kernel_rfl, by kernel_rfl⟩, octet_isWidth := ⟨by kernel_rfl, by kernel_rfl⟩, rights_within := ⟨by kernel_rfl, by kernel_rfl⟩, slices_Grow_byte_byte := ⟨by kernel_rfl, by kernel_rfl⟩, tithingref21_bits := ⟨by kernel_rfl, by kernel_rfl⟩ }
theorem has_first : EE.prim 8 = some pTrue := by kernel_rfl

def rightsTypes : List TypeId := [3, 3, 3, 3, 3, 4]
set_option maxRecDepth 100000 in
/-- The parts of rights. -/
theorem open_rights {W : World} {r : Reach} {base : Nat} {v : Value} (h : Value.okWide Tryz.prog W r base 23 v) : ∃ (o g fo fg fa : Int) (b : Bool), v = .agg ⟨rightsC o g fo fg fa b⟩ := by
  have hts : Tryz.prog.cellTypes Tryz.prog.depth 23 = some rightsTypes := by kernel_rfl
  have hn : Tryz.prog.cellsOf 23 = rightsTypes.length := by kernel_rfl
  obtain ⟨cs, hv, hc⟩ := okCells Tryz.underlying23 hts hn h
  clear h
  subst hv
  have h := hc
  clear hc
  obtain ⟨v0, l0, rfl, h0, h⟩ := h.inv
  obtain ⟨v1, l1, rfl, h1, h⟩ := h.inv
  obtain ⟨v2, l2, rfl, h2, h⟩ := h.inv
  obtain ⟨v3, l3, rfl, h3, h⟩ := h.inv
  obtain ⟨v4, l4, rfl, h4, h⟩ := h.inv
  obtain ⟨v5, l5, rfl, h5, h⟩ := h.inv
  obtain rfl := h.end_
  obtain ⟨o, rfl⟩ := okCell_int Tryz.underlying3 h0
  obtain ⟨g, rfl⟩ := okCell_int Tryz.underlying3 h1
  obtain ⟨fo, rfl⟩ := okCell_int Tryz.underlying3 h2
  obtain ⟨fg, rfl⟩ := okCell_int Tryz.underlying3 h3
  obtain ⟨fa, rfl⟩ := okCell_int Tryz.underlying3 h4
  obtain ⟨b, rfl⟩ := okCell_bool Tryz.underlying4 h5
  exact ⟨o, g, fo, fg, fa, b, rfl⟩
theorem rights_VR (κ : Inj) (o g fo fg fa : Int) (b : Bool) : VR κ (.agg ⟨rightsC o g fo fg fa b⟩) (.agg ⟨rightsC o g fo fg fa b⟩) := by
  refine .aggI (fun y hy => ?_) (.cons (.int _ _) (.cons (.int _ _) (.cons (.int _ _) (.cons (.int _ _) (.cons (.int _ _) (.cons (.bool _) .nil))))))
  simp only [rightsC, List.mem_cons, List.not_mem_nil, or_false] at hy
  rcases hy with rfl | rfl | rfl | rfl | rfl | rfl <;> trivial

/-- The call. -/
theorem serverRights_calls {W : World} (hW : W.ShapedOpen Tryz.prog) {o g fo fg fa : Int} {b : Bool} {v : Value} (hv : v = .slice none 0 0 ∨ ∃ a n c, v = .slice (some a) n c ∧ n ≤ c ∧ c < open_ ∧ a.spot = none ∧ a.block < W.heap.size ∧ (n = 12 → ∃ l : List UInt8, l.length = 12 ∧ ∀ i (h : i < l.length), W.cell? (a.add i) = some (ofByte l[i]))) :
    Calls Tryz.prog 3 #[.agg ⟨rightsC o g fo fg fa b⟩, v] W fun e w' => e = .returned (.bool true) ∧ Below W.heap.size W w' := by
  have hg : Tryz.prog.globals.size = 4 := by kernel_rfl
  have hsz : 4 ≤ W.heap.size := hg ▸ globs_size globsThere hW
  have short : ∀ (s : St) (p : Option Addr) (n c : Nat), n ≠ 12 → ∃ k, saysTrue (callC EE (runC EE k) 3 [.agg ⟨rightsC o g fo fg fa b⟩, .slice p n c] s) = true := fun s p n c hn =>
    (law_walk codes codes.tithinglaw25_ServerRights has_first (fun t _ => GetRights_short codes.server_GetRights hn) (fun t _ => refGetRights_short codes.tithingref25_GetRights hn)).says
  rcases hv with rfl | ⟨a, n, c, rfl, h1, h2, h3, h4, h5⟩
  · have hr : Rel (globInj1 4 ⟨0, 0, 0, 0⟩) W.heap.size (bare 5) W := bare_rel1 hsz (by show 0 < _; omega) rfl
    obtain ⟨k, hk⟩ := short (bare 5) none 0 0 (by decide)
    exact calls_true (envOf_ok prims_ok) mixed named (glob_globs1 hg _) hr (.cons (rights_VR _ _ _ _ _ _ _) (.cons .slN .nil)) hk
  by_cases hn : n = 12
  case neg =>
    have hr : Rel (globInj1 4 ⟨a.block, a.off, a.off + c, 1⟩) W.heap.size (bare 5) W := bare_rel1 hsz h4 rfl
    obtain ⟨k, hk⟩ := short (bare 5) (some ⟨4, 0, none⟩) n open_ hn
    exact calls_true (envOf_ok prims_ok) mixed named (glob_globs1 hg _) hr (.cons (rights_VR _ _ _ _ _ _ _) (.cons (.dark h3 h1) .nil)) hk
  subst hn
  obtain ⟨l, hl, hcell⟩ := h5 rfl
  obtain ⟨ab, ao, sp⟩ := a
  simp only at h3 h4
  subst h3
  have hc : ∀ i (h : i < l.length), W.cell? ⟨ab, ao + i, none⟩ = some (ofByte l[i]) := by
    intro i h
    have := hcell i h
    rwa [add_eq] at this
  have hheap : ∃ cs' T fr, W.heap[ab]? = some (.cells cs' T fr) := by
    have h0 := hc 0 (by omega)
    unfold World.cell? at h0
    cases e : W.heap[ab]? with
    | none => simp only [e] at h0; cases h0
    | some o =>
      cases o with
      | cells cs T fr => exact ⟨cs, T, fr, rfl⟩
      | _ => simp only [e] at h0; cases h0
  obtain ⟨cs', T, fr, hh⟩ := hheap
  have hcs : ∀ i (h : i < l.length), cs'[ao + i]? = some (ofByte l[i]) := by
    intro i h
    have := hc i h
    unfold World.cell? at this
    simp only [hh] at this
    simpa using this
  have hsize : ao + 12 ≤ cs'.size := by
    have := (Array.getElem?_eq_some_iff.1 (hcs 11 (by omega))).1
    omega
  let R : List (Blk × List Value) := [(⟨ab, ao, cs'.size, 1⟩, l.map ofByte)]
  have hr : Rel (rowsInj 4 R) W.heap.size (rowsSt 4 R) W := rows_rel hsz (fun i r hi => by
    match i, hi with
    | 0, hi =>
      cases hi
      refine ⟨cs', T, fr, hh, rfl, by rw [List.length_map, hl]; exact hsize, fun j x hx => ?_⟩
      rw [List.getElem?_map, Option.map_eq_some_iff] at hx
      obtain ⟨y, hy, rfl⟩ := hx
      have hj := (List.getElem?_eq_some_iff.1 hy).1
      refine ⟨trivial, _, hcs j hj, ?_⟩
      have : l[j] = y := by
        rw [List.getElem?_eq_getElem hj] at hy
        exact Option.some.inj hy
      rw [this]
      exact .int _ _
    | n + 1, hi => cases hi)
  have hS : Sl (rowsSt 4 R) (4 + 1) 1 (.slice (some ⟨4 + 0, 0, none⟩) 12 c) (l.map ofByte) := rows_sl (R := R) (i := 0) (r := (⟨ab, ao, cs'.size, 1⟩, l.map ofByte)) rfl (by show (l.map ofByte).length = 12 * 1; rw [List.length_map, hl]) ⟨h1, h2⟩
  obtain ⟨o', g', fo', fg', fa', b', e', hget⟩ := get_any l
  have hw := (law_walk (s := rowsSt 4 R) (o := o) (g := g) (fo := fo) (fg := fg) (fa := fa) (b := b) (v := .slice (some ⟨4 + 0, 0, none⟩) 12 c) codes codes.tithinglaw25_ServerRights has_first
    (fun t ht => (GetRights_run codes codes.server_GetRights (hi := 5) ht.le (hS.low ht (Nat.le_refl _)) (by omega)).mono fun r t' h => ⟨h.1.trans hget, h.2⟩)
    (fun t ht => (refGetRights_run codes codes.tithingref25_GetRights (hi := 5) ht.le (hS.low ht (Nat.le_refl _)) (by omega)).mono fun r t' h => ⟨h.1.trans hget, h.2⟩)).says
  obtain ⟨k, hk⟩ := hw
  exact calls_true (envOf_ok prims_ok) mixed named (rows_globs hg R) hr (.cons (rights_VR _ _ _ _ _ _ _) (.cons (VR.laid (R := R) (i := 0) (r := (⟨ab, ao, cs'.size, 1⟩, l.map ofByte)) rfl rfl rfl rfl h2 h1) .nil)) hk

abbrev laidList := Rows.serverRightsRow.laid
set_option maxRecDepth 100000 in
theorem serverRights_lifted (os : Os) (started : os.Started) (H : Type) (enc : TypeId × Value → H) :
    ReturnsInHanded {} Tryz.checked os 3 .any (fun w args => (Rows.serverRightsSpec.pre enc Tryz.prog Tryz.f3 Rows.serverRightsRow.domain false w args ∧ laidMetH Tryz.prog laidList w) ∧ sizedMet enc Tryz.prog Tryz.f3 (OpenSpec.ofChange Rows.serverRightsSpec) false w args)
      (Rows.serverRightsSpec.post enc Tryz.prog Tryz.f3 false true false false) := by
  refine returnsInHanded_shaped (C := Tryz.checked) (X := fun w _ => laidMetH Tryz.prog laidList w) (fun _ _ _ hh h => h.of_heap hh) own started (by kernel_rfl) Tryz.func3
    (ChangeSpec.witness_shaped (enc := enc) (C := Tryz.checked) (os := os) (X := fun w _ => laidMetH Tryz.prog laidList w) false (World.laidAll Tryz.prog os laidList) #[.agg ⟨rightsC 0 0 0 0 0 false⟩, .slice none 0 0] 4 (World.laidAll_os _ _ _)
      (World.shaped_of_ZipB (by kernel_rfl) (by kernel_rfl)) (by kernel_rfl) (by kernel_rfl) (by kernel_rfl)
      (by rw [MakeChecks.laidMetH_plain _ _ _ (by kernel_rfl)]; exact laidMet_laidAll _ (by kernel_rfl) (by kernel_rfl))) ?_
  intro W base args ds gs before hshape hval0 hW _ hz _
  have hval : ∀ (j : Nat) t v, Tryz.f3.params[j]? = some t → args[j]? = some v → Value.okWide Tryz.prog W .any base t v := hval0
  have hW' := hW
  obtain ⟨p, q, hA0, hV, rfl, hfz, hnd⟩ := hW
  have hA : DataW.TrodAll enc Tryz.prog W 0 (fun _ => true) true Tryz.f3.params.toList args.toList ds p := hA0
  have hlt := hA.lt
  rw [Tryz.params3] at hA hval hz
  obtain ⟨v0, v1, d0, d1, p0, p1, rfl, rfl, rfl, h0, h1⟩ := trodAll_two hA
  obtain ⟨rfl, rfl⟩ := trodVars_none hV
  obtain ⟨o, g, fo, fg, fa, b, rfl⟩ := open_rights (hval 0 23 v0 rfl rfl)
  have hb := hval 1 24 v1 rfl rfl
  clear hA0 hval0
  have hv1 : v1 = .slice none 0 0 ∨ ∃ a n c, v1 = .slice (some a) n c ∧ n ≤ c ∧ c < open_ ∧ a.spot = none ∧ a.block < W.heap.size ∧ (n = 12 → ∃ l : List UInt8, l.length = 12 ∧ ∀ i (h : i < l.length), W.cell? (a.add i) = some (ofByte l[i])) := by
    have hb : Cell.okWide Tryz.prog W .any base 24 v1 := by
      simp only [Value.okWide, Tryz.underlying24] at hb
      exact hb
    have h1 := h1
    obtain ⟨fuel, hf⟩ := h1
    rcases okCell_slice Tryz.underlying24 hb with rfl | ⟨a, n, c, rfl, k1, k2, k3⟩
    · exact .inl rfl
    refine .inr ⟨a, n, c, rfl, k1, ?_, k2, k3, ?_⟩
    · have hf : DataW.trod enc Tryz.prog W 0 (fun _ => true) true fuel 24 [.slice (some a) n c] = some (d1, p1) := hf
      rcases open_ints (k := .u8) Tryz.underlying24 Tryz.underlying5 (by kernel_rfl) hf with ⟨hcs, _⟩ | ⟨a', len, cap, zs, hcs, _, hle, _, hlen, hx, _, _⟩
      · cases hcs
      cases hcs
      simp only [if_true] at hlen
      cases hx
      have h1b : Tryz.prog.bytesOf 5 = 1 := by kernel_rfl
      have hmem : c ∈ DataW.weightsEach Tryz.prog ([23, 24] ++ Rows.serverRightsSpec.plain.varTypes Tryz.prog) ([d0, DataW.slice (lits .u8 (zs.take n)) (lits .u8 (zs.drop n))] ++ []) := by
        simp only [List.cons_append, List.nil_append, DataW.weightsEach, DataW.weights, Tryz.underlying24, h1b, List.mem_append, List.mem_cons]
        refine .inr (.inl ?_)
        simp [lits]; omega
      have := List.all_eq_true.1 hz c hmem
      have := of_decide_eq_true this
      unfold reachBytes at this
      unfold open_
      omega
    · rintro rfl
      have hf : DataW.trod enc Tryz.prog W 0 (fun _ => true) true fuel 24 [.slice (some a) 12 c] = some (d1, p1) := hf
      rcases open_ints (k := .u8) Tryz.underlying24 Tryz.underlying5 (by kernel_rfl) hf with ⟨hcs, _⟩ | ⟨a', len, cap, zs, hcs, _, hle, _, hlen, _, hcell, hwf⟩
      · cases hcs
      cases hcs
      simp only [if_true] at hlen
      refine ⟨(zs.take 12).map fun z => UInt8.ofNat z.toNat, by rw [List.length_map, List.length_take]; omega, fun i hi => ?_⟩
      rw [List.length_map, List.length_take] at hi
      have hi12 : i < zs.length := by omega
      rw [hcell i hi12, List.getElem_map, List.getElem_take, List.getD_eq_getElem?_getD, List.getElem?_eq_getElem hi12, Option.getD_some]
      have hw := hwf _ (List.getElem_mem hi12)
      have hw : (decide (IntKind.u8.min ≤ zs[i]) && decide (zs[i] ≤ IntKind.u8.max)) = true := hw
      rw [Bool.and_eq_true, decide_eq_true_eq, decide_eq_true_eq] at hw
      have h1 : (0 : Int) ≤ zs[i] := hw.1
      have h2 : zs[i] ≤ 255 := hw.2
      rw [ofByte_ofNat]
      congr 2
      omega
  refine (serverRights_calls hshape hv1).mono fun e W' ⟨he, bel⟩ => ?_
  subst he
  exact ⟨_, rfl, _, _, _, [], _, [], hW', trodAll_mk1 (shut_bool Tryz.underlying4 _), trodAll_mk2 (Below.trod serverRights_laidOut (by kernel_rfl) (of_decide_eq_true (by kernel_rfl)) h0 bel (fun x hx => hlt x (by simp [hx]))) (Below.trod serverRights_laidOut (by kernel_rfl) (of_decide_eq_true (by kernel_rfl)) h1 bel (fun x hx => hlt x (by simp [hx]))), rfl, bel.frame _, fun h => by cases h⟩

theorem serverRights_holds : Rows.ServerRightsSaid :=
  OpenClaim.holds_of_wide 3 Tryz.f3 rfl rfl rfl rfl rfl rfl rfl ⟨rfl, rfl, rfl, rfl, rfl⟩ rfl rfl rfl rfl rfl (by kernel_rfl) Tryz.func3 serverRights_facts
    (of_decide_eq_true (by kernel_rfl)) (by unfold Func.isWrapper; first | (rw [if_pos (by decide +kernel)]; kernel_rfl) | (rw [if_neg (by decide +kernel)]; exact ⟨rfl, rfl⟩))
    (fun os started H enc _ => serverRights_lifted os started H enc)

/-- The card. -/
theorem serverRights_card : Rows.ServerRightsCardSaid :=
  Claim7.holds_tied_plain_at .later [] [.data, .data, .data] true (true, "47327cd2e987fae9ef1a40f9464c20e7a911d2a3dfb7284ea424e881b1342e37") true
    serverRights_holds (fun _ h => by cases h) (by kernel_rfl) (fun _ h => by cases h) serverRights_row_tie rfl ⟨rfl, rfl⟩ (by kernel_rfl) rfl
    (fun f fn hf hfn => by
      obtain rfl : f = 3 := Option.some.inj ((show Tryz.prog.funcNamed "tithing/tithinglaw25.ServerRights" = some 3 by kernel_rfl).symm.trans hf) |>.symm
      obtain rfl : fn = Tryz.f3 := (Option.some.inj (Tryz.func3.symm.trans hfn)).symm
      exact ⟨serverRights_looks.symm, fun j t ht => by
        rw [Tryz.params3] at ht
        have hm : t ∈ [23, 24] := by simpa using Array.mem_of_getElem? ht
        have hall : ([23, 24].all fun u => !Tryz.prog.wantsStandIn u) = true := by kernel_rfl
        exact (show Tryz.prog.wantsStandIn t = false by simpa using List.all_eq_true.1 hall t hm)⟩)
    serverRights_goesBy
#print axioms serverRights_card
end Go.Proofs.YtddfilkdiomldaaGreatDoor
