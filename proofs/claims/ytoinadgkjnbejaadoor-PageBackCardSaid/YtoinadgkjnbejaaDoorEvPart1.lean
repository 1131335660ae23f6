/-
  A machine that runs the program's code, and that what it does the model does; part 1.
  EvEqual: '==' of structs and arrays whose parts are bools, integers and strings.
  EvKey: Keys of maps: numbers, texts, truths, and structs of such.
  EvMap: Maps.
  EvMap2: Operations on maps.
  EvMap3: delete, clear; texts out of bytes; ranges over a text.
  EvUnsafe: Pointers that go through unsafe.Pointer and come back; the bytes of a row as a text (strings.Builder's).
  EvOps: All operations that call nothing: what the machine does is what the model does.
  EvOps2: The other operations.
  EvOps3: Calls of the language's own functions; and all operations together.
  EvCall: One operation in its place: a call too.
  EvRegion: A region in the order of the text.
  EvMany: Regions whose calls may end in several ways.
  EvSame: Values that the machine finds the same are equal.
  EvLike0: A state that tells less than another, with other numbers for what is new.
  EvMerge: Ways that end alike are one.
  EvMark: Blocks that are nobody's; the marks that loops over functions leave among a call's deferred calls.
  EvCode1: What code does; calls.
  EvRound: Loops over functions: a round, and the statement.
-/
import Derived.Test.YtoinadgkjnbejaaDoorEvPart0
import Derived.MapKept
import Derived.Laws.BytesString
import Derived.Lib.UnsafeStr
import Derived.Calls
import Derived.Scope
import Derived.CallsIn
import Derived.RangeFuncLeaves
set_option linter.unusedVariables false
set_option linter.unusedSimpArgs false
namespace Go.Ev
open Go (Sem)
theorem places_cons {p : Nat × CK} {l : List (Nat × CK)} {x y : List Value} : placesEq (p :: l) x y = ob (nthL x p.1) fun a => ob (nthL y p.1) fun b => ob ((cellEq p.2).run a b) fun r => om (placesEq l x y) fun s => r && s := rfl
theorem places_append {a b : List (Nat × CK)} {x y : List Value} {r : Bool} (h : placesEq (a ++ b) x y = some r) : ∃ r1 r2, placesEq a x y = some r1 ∧ placesEq b x y = some r2 ∧ r = (r1 && r2) := by
  induction a generalizing r with
  | nil => exact ⟨true, r, rfl, h, by simp⟩
  | cons p a ih =>
    rw [List.cons_append, places_cons] at h
    obtain ⟨u, hu, h1⟩ := ob_eq.1 h
    obtain ⟨v, hv, h2⟩ := ob_eq.1 h1
    obtain ⟨q, hq, h3⟩ := ob_eq.1 h2
    obtain ⟨t, ht, h4⟩ := om_eq.1 h3
    obtain ⟨r1, r2, g1, g2, rfl⟩ := ih ht
    refine ⟨q && r1, r2, ?_, g2, by rw [← h4, Bool.and_assoc]⟩
    rw [places_cons, hu, ob_some, hv, ob_some, hq, ob_some, g1]; rfl
theorem places_extract {l : List (Nat × CK)} {m off : Nat} (hl : (l.all fun p => decide (p.1 < m)) = true) {xs ys : List Value} {r : Bool} (h : placesEq (shiftL off l) xs ys = some r) : placesEq l ((xs.drop off).take m) ((ys.drop off).take m) = some r := by
  induction l generalizing r with
  | nil => exact h
  | cons p l ih =>
    simp only [List.all_cons, Bool.and_eq_true, decide_eq_true_eq] at hl
    unfold shiftL at h
    rw [List.map_cons, places_cons] at h
    obtain ⟨u, hu, h1⟩ := ob_eq.1 h
    obtain ⟨v, hv, h2⟩ := ob_eq.1 h1
    obtain ⟨q, hq, h3⟩ := ob_eq.1 h2
    obtain ⟨t, ht, h4⟩ := om_eq.1 h3
    have := ih hl.2 ht
    simp only at hu hv hq
    rw [nthL_eq] at hu hv
    have e : ∀ (z : List Value), nthL ((z.drop off).take m) p.1 = z[off + p.1]? := by
      intro z; rw [nthL_eq, List.getElem?_take, if_pos hl.1, List.getElem?_drop]
    rw [places_cons, e, hu, ob_some, e, hv, ob_some, hq, ob_some, this]
    exact congrArg some h4
theorem all_same {α : Type} {p q : α → Bool} {l : List α} (h : ∀ x ∈ l, p x = q x) : l.all p = l.all q := by
  induction l with
  | nil => rfl
  | cons x l ih => rw [List.all_cons, List.all_cons, h x (by simp), ih fun y hy => h y (by simp [hy])]
section
variable {P : Program} {w : World}
theorem loop_all {α : Type} (l : List α) (f : α → Option Bool × Unit → Sem (ForInStep (Option Bool × Unit))) (b : α → Bool) (h : ∀ a ∈ l, (f a (none, ())).run P w = .ok (if b a then .yield (none, ()) else .done (some false, ())) w) :
    (forIn l (none, ()) f).run P w = .ok (if l.all b then (none, ()) else (some false, ())) w := by
  induction l with
  | nil => simp [forIn, ForIn.forIn, List.forIn'] <;> rfl
  | cons a l ih =>
    rw [List.forIn_cons, Sem.run_bind, h a (by simp)]
    cases hb : b a with
    | true =>
      simp only [Result.andThen, if_true, List.all_cons, hb, Bool.true_and]
      exact ih fun x hx => h x (by simp [hx])
    | false =>
      simp only [Result.andThen, List.all_cons, hb, Bool.false_and]
      rfl
theorem leaves_ok : ∀ (n : Nat) (t : TypeId) (l : List (Nat × CK)), leaves P n t = some l → ∀ (g : Bool), isAgg? P t = some g → ∀ (m : Nat), sizeOf? P t = some m → (l.all fun p => decide (p.1 < m)) = true → ∀ (d : Nat), n ≤ d → ∀ (xs ys : List Value) (off : Nat) (r : Bool),
    placesEq (shiftL off l) xs ys = some r → ∃ x y, (part t ⟨xs⟩ off).run P w = .ok x w ∧ (part t ⟨ys⟩ off).run P w = .ok y w ∧ (Op.equalIn d t x y).run P w = .ok r w := by
  intro n
  induction n with
  | zero => intro t l h; cases h
  | succ n ih =>
    intro t l h g hg m hm hlt d hd xs ys off r hr
    obtain ⟨d, rfl⟩ : ∃ e, d = e + 1 := ⟨d - 1, by omega⟩
    have one : ∀ c : CK, l = [(0, c)] → g = false → ∃ x y, (part t ⟨xs⟩ off).run P w = .ok x w ∧ (part t ⟨ys⟩ off).run P w = .ok y w ∧ (cellEq c).run x y = some r := by
      intro c hl hg'
      subst hl
      subst hg'
      unfold shiftL at hr
      rw [List.map_cons, List.map_nil, places_cons] at hr
      obtain ⟨u, hu, h1⟩ := ob_eq.1 hr
      obtain ⟨v, hv, h2⟩ := ob_eq.1 h1
      obtain ⟨q, hq, h3⟩ := ob_eq.1 h2
      obtain ⟨s, hs, h4⟩ := om_eq.1 h3
      cases hs
      rw [nthL_eq] at hu hv
      simp only [Nat.add_zero] at hu hv
      refine ⟨u, v, ?_, ?_, by rw [hq, ← h4]; simp⟩
      · simp [part, run_isAgg hg, hu, Result.andThen]
      · simp [part, run_isAgg hg, hv, Result.andThen]
    have cut : g = true → ∀ z : List Value, (part t ⟨z⟩ off).run P w = .ok (.agg ⟨(z.drop off).take m⟩) w := by
      intro hg' z
      subst hg'
      simp [part, run_isAgg hg, run_sizeOf hm, Result.andThen, List.extract_eq_take_drop]
    unfold leaves at h
    split at h
    · rename_i hu
      cases h
      obtain ⟨x, y, h1, h2, h3⟩ := one _ rfl (by unfold isAgg? at hg; rw [hu] at hg; cases hg; rfl)
      refine ⟨x, y, h1, h2, ?_⟩
      obtain ⟨a, ha, h4⟩ := ob_eq.1 h3
      obtain ⟨b, hb, h5⟩ := ob_eq.1 h4
      cases h5
      rw [asBool_eq ha, asBool_eq hb, Op.equalIn]
      simp [run_underlying hu, Result.andThen]
    · rename_i k hu
      cases h
      obtain ⟨x, y, h1, h2, h3⟩ := one _ rfl (by unfold isAgg? at hg; rw [hu] at hg; cases hg; rfl)
      refine ⟨x, y, h1, h2, ?_⟩
      obtain ⟨a, ha, h4⟩ := ob_eq.1 h3
      obtain ⟨b, hb, h5⟩ := ob_eq.1 h4
      obtain ⟨hk, h6⟩ := must_eq.1 h5
      cases h6
      rw [kEq_eq] at hk
      have hk : a.1 = b.1 := by simpa using hk
      rw [asInt_eq ha, asInt_eq hb, Op.equalIn, iEq_eq]
      simp only [Sem.run_bind, run_underlying hu, Result.andThen, hk, if_true, Sem.run_pure]
      congr 1
    · rename_i hu
      cases h
      obtain ⟨x, y, h1, h2, h3⟩ := one _ rfl (by unfold isAgg? at hg; rw [hu] at hg; cases hg; rfl)
      refine ⟨x, y, h1, h2, ?_⟩
      obtain ⟨a, ha, h4⟩ := ob_eq.1 h3
      obtain ⟨b, hb, h5⟩ := ob_eq.1 h4
      cases h5
      rw [asStr_eq ha, asStr_eq hb, Op.equalIn, bytesEq_eq]
      simp only [strOf, Sem.run_bind, run_underlying hu, Result.andThen, Sem.run_pure]
      congr 1
      rw [Bool.eq_iff_iff, decide_eq_true_eq]
      constructor
      · intro h
        have h2 : ((⟨a⟩ : Array UInt8) == ⟨b⟩) = true := h
        simpa using h2
      · rintro rfl
        show ((⟨a⟩ : Array UInt8) == ⟨a⟩) = true
        simp
    · -- an array
      rename_i len e hu
      split at h
      · rename_i le me hle hme
        split at h
        · rename_i hall
          cases h
          have hgt : g = true := by unfold isAgg? at hg; rw [hu] at hg; cases hg; rfl
          refine ⟨_, _, cut hgt xs, cut hgt ys, ?_⟩
          have hr2 := places_extract hlt hr
          have hge : ∃ ge, isAgg? P e = some ge := by
            cases n with
            | zero => cases hle
            | succ n =>
              unfold leaves at hle
              unfold isAgg?
              cases hue : P.underlying e with
              | none => rw [hue] at hle; cases hle
              | some u => exact ⟨_, rfl⟩
          obtain ⟨ge, hge⟩ := hge
          have each : ∀ (is : List Nat) (r : Bool), placesEq (is.flatMap fun i => shiftL (i * me) le) ((xs.drop off).take m) ((ys.drop off).take m) = some r → ∃ b : Nat → Bool, r = is.all b ∧ ∀ i ∈ is, placesEq (shiftL (i * me) le) ((xs.drop off).take m) ((ys.drop off).take m) = some (b i) := by
            intro is
            induction is with
            | nil => intro r h; cases h; exact ⟨fun _ => true, rfl, by simp⟩
            | cons i is ih2 =>
              intro r h
              rw [List.flatMap_cons] at h
              obtain ⟨r1, r2, q1, q2, rfl⟩ := places_append h
              obtain ⟨b, rfl, hb⟩ := ih2 r2 q2
              refine ⟨fun j => ((placesEq (shiftL (j * me) le) ((xs.drop off).take m) ((ys.drop off).take m)).getD false), ?_, ?_⟩
              · rw [List.all_cons, q1]
                congr 1
                apply all_same
                intro j hj
                rw [hb j hj]; rfl
              · intro j hj
                show _ = some ((placesEq (shiftL (j * me) le) ((xs.drop off).take m) ((ys.drop off).take m)).getD false)
                rcases List.mem_cons.1 hj with rfl | hj
                · rw [q1]; rfl
                · rw [hb j hj]; rfl
          obtain ⟨b, rfl, hb⟩ := each _ _ hr2
          rw [Op.equalIn]
          simp only [Sem.run_bind, run_underlying hu, Result.andThen, run_sizeOf hme, Std.Legacy.Range.forIn_eq_forIn_range']
          rw [loop_all (b := b)]
          · rw [List.range_eq_range']
            simp only [Std.Legacy.Range.size, Nat.sub_zero, Nat.add_sub_cancel, Nat.div_one]
            cases (List.range' 0 len).all b <;> rfl
          · intro i hi
            have hi' : i ∈ List.range len := by
              simpa [Std.Legacy.Range.size, List.range_eq_range'] using hi
            obtain ⟨x, y, p1, p2, p3⟩ := ih e le hle ge hge me hme hall d (by omega) _ _ _ _ (hb i hi')
            simp only [Sem.run_bind, p1, p2, p3, Result.andThen]
            cases b i <;> rfl
        · cases h
      · cases h
    · -- a struct
      rename_i fs hu
      split at h
      · cases h
      rename_i hst
      obtain ⟨ls, hls, rfl⟩ := Option.map_eq_some_iff.1 h
      have hgt : g = true := by unfold isAgg? at hg; rw [hu] at hg; cases hg; rfl
      refine ⟨_, _, cut hgt xs, cut hgt ys, ?_⟩
      have hr2 := places_extract hlt hr
      generalize hX : (xs.drop off).take m = X at hr2
      generalize hY : (ys.drop off).take m = Y at hr2
      have each : ∀ (fl : List Field) (ls : List (List (Nat × CK))) (r : Bool), fl.mapM (fun (f : Field) => if f.name == "_" then some [] else match leaves P n f.type, sizeOf? P f.type with
        | some l, some m => if l.all fun p => decide (p.1 < m) then some (shiftL f.offset l) else none
        | _, _ => none) = some ls → placesEq ls.flatten X Y = some r →
          ∃ b : Field → Bool, r = fl.all b ∧ ∀ f ∈ fl, (f.name = "_" ∧ b f = true) ∨ (f.name ≠ "_" ∧ ∃ x y, (part f.type ⟨X⟩ f.offset).run P w = .ok x w ∧ (part f.type ⟨Y⟩ f.offset).run P w = .ok y w ∧ (Op.equalIn d f.type x y).run P w = .ok (b f) w) := by
        intro fl
        induction fl with
        | nil => intro ls r h h2; simp at h; subst h; cases h2; exact ⟨fun _ => true, rfl, by simp⟩
        | cons f fl ih2 =>
          intro ls r h h2
          rw [List.mapM_cons] at h
          obtain ⟨lf, hlf, h3⟩ := Option.bind_eq_some_iff.1 h
          obtain ⟨ls2, hls2, h4⟩ := Option.bind_eq_some_iff.1 h3
          cases h4
          rw [List.flatten_cons] at h2
          obtain ⟨r1, r2, q1, q2, rfl⟩ := places_append h2
          obtain ⟨b, rfl, hb⟩ := ih2 ls2 r2 hls2 q2
          have first : (f.name = "_" ∧ r1 = true) ∨ (f.name ≠ "_" ∧ ∃ x y, (part f.type ⟨X⟩ f.offset).run P w = .ok x w ∧ (part f.type ⟨Y⟩ f.offset).run P w = .ok y w ∧ (Op.equalIn d f.type x y).run P w = .ok r1 w) := by
            split at hlf
            · rename_i hn
              cases hlf
              cases q1
              exact .inl ⟨by simpa using hn, rfl⟩
            · rename_i hn
              right
              refine ⟨by simpa using hn, ?_⟩
              split at hlf
              · rename_i l2 m2 hl2 hm2
                split at hlf
                · rename_i hall
                  cases hlf
                  have hge : ∃ ge, isAgg? P f.type = some ge := by
                    cases n with
                    | zero => cases hl2
                    | succ n =>
                      unfold leaves at hl2
                      unfold isAgg?
                      cases hue : P.underlying f.type with
                      | none => rw [hue] at hl2; cases hl2
                      | some u => exact ⟨_, rfl⟩
                  obtain ⟨ge, hge⟩ := hge
                  exact ih f.type l2 hl2 ge hge m2 hm2 hall d (by omega) X Y f.offset r1 q1
                · cases hlf
              · cases hlf
          classical
          by_cases hmem : f ∈ fl
          · -- it stands there once more: the same
            refine ⟨b, ?_, ?_⟩
            · rw [List.all_cons]
              congr 1
              rcases hb f hmem with ⟨e1, e2⟩ | ⟨e1, x, y, e2, e3, e4⟩
              · rcases first with ⟨_, e⟩ | ⟨e, _⟩
                · rw [e, e2]
                · exact absurd e1 e
              · rcases first with ⟨e, _⟩ | ⟨_, x2, y2, k1, k2, k3⟩
                · exact absurd e e1
                · rw [e2] at k1; cases k1
                  rw [e3] at k2; cases k2
                  rw [e4] at k3; cases k3
                  rfl
            · intro f2 hf2
              rcases List.mem_cons.1 hf2 with rfl | hf2
              · exact hb _ hmem
              · exact hb _ hf2
          · obtain ⟨b2, hb2, hb3⟩ : ∃ b2 : Field → Bool, b2 f = r1 ∧ ∀ f2, f2 ≠ f → b2 f2 = b f2 := ⟨fun f2 => if f2 = f then r1 else b f2, if_pos rfl, fun _ h => if_neg h⟩
            refine ⟨b2, ?_, ?_⟩
            · rw [List.all_cons, hb2]
              congr 1
              apply all_same
              intro f2 hf2
              rw [hb3 f2 (fun e => hmem (e ▸ hf2))]
            · intro f2 hf2
              by_cases e : f2 = f
              · subst e; rw [hb2]; exact first
              · rw [hb3 f2 e]
                exact hb f2 ((List.mem_cons.1 hf2).resolve_left e)
      obtain ⟨b, rfl, hb⟩ := each _ _ _ hls hr2
      rw [Op.equalIn]
      have hst' : P.stoodInHeld t = false := by simpa using hst
      simp only [Sem.run_bind, run_underlying hu, Result.andThen, program, Sem.run, hst']
      rw [if_neg (by simp), Sem.run_bind, ← Array.forIn_toList, loop_all (b := b)]
      · simp only [Result.andThen]
        cases fs.toList.all b <;> rfl
      · intro f hf
        rcases hb f hf with ⟨e1, e2⟩ | ⟨e1, x, y, p1, p2, p3⟩
        · rw [if_neg (by simpa using e1), e2]; rfl
        · rw [if_pos e1]
          simp only [Sem.run_bind, p1, p2, p3, Result.andThen]
          cases b f <;> rfl
    · cases h
theorem cell_real {ι : Inj} {k : CK} {x y x' y' : Value} {r : Bool} (hx : VR ι x x') (hy : VR ι y y') (h : (cellEq k).run x y = some r) : (cellEq k).run x' y' = some r := by
  cases k with
  | skip => exact h
  | int =>
    obtain ⟨a, ha, h1⟩ := ob_eq.1 h
    obtain ⟨b, hb, h2⟩ := ob_eq.1 h1
    have e1 := asInt_eq ha
    have e2 := asInt_eq hb
    rw [e1] at hx; rw [e2] at hy
    rw [hx.intE, hy.intE, ← e1, ← e2]; exact h
  | str =>
    obtain ⟨a, ha, h1⟩ := ob_eq.1 h
    obtain ⟨b, hb, h2⟩ := ob_eq.1 h1
    have e1 := asStr_eq ha
    have e2 := asStr_eq hb
    rw [e1] at hx; rw [e2] at hy
    rw [hx.strE, hy.strE, ← e1, ← e2]; exact h
  | bool =>
    obtain ⟨a, ha, h1⟩ := ob_eq.1 h
    obtain ⟨b, hb, h2⟩ := ob_eq.1 h1
    have e1 := asBool_eq ha
    have e2 := asBool_eq hb
    rw [e1] at hx; rw [e2] at hy
    rw [hx.boolE, hy.boolE, ← e1, ← e2]; exact h
theorem places_real {ι : Inj} {l : List (Nat × CK)} {x y x' y' : List Value} {r : Bool} (hx : LR ι x x') (hy : LR ι y y') (h : placesEq l x y = some r) : placesEq l x' y' = some r := by
  induction l generalizing r with
  | nil => exact h
  | cons p l ih =>
    rw [places_cons] at h
    obtain ⟨u, hu, h1⟩ := ob_eq.1 h
    obtain ⟨v, hv, h2⟩ := ob_eq.1 h1
    obtain ⟨q, hq, h3⟩ := ob_eq.1 h2
    obtain ⟨t, ht, h4⟩ := om_eq.1 h3
    rw [nthL_eq] at hu hv
    obtain ⟨u', hu', ru⟩ := hx.some hu
    obtain ⟨v', hv', rv⟩ := hy.some hv
    rw [places_cons, nthL_eq, hu', ob_some, nthL_eq, hv', ob_some, cell_real ru rv hq, ob_some, ih ht]
    exact congrArg some h4
theorem q_eqCells {ι : Inj} {o : Oper} {ρ : Operand → Value} {op : BinOp} {T yT : TypeId} {x y : Operand} (ho : o.op = .binOp op T x y yT) (hop : op = .eql ∨ op = .neq) {l : List (Nat × CK)} {n : Nat} (hl : leaves P 20 T = some l) (hn : sizeOf? P T = some n) (hg : isAgg? P T = some true)
    (hq : P.eqGuardType P.depth T = false) (hall : (l.all fun p => decide (p.1 < n)) = true) {a b : List Value} (hx : VR ι (.agg ⟨a⟩) (ρ x)) (hy : VR ι (.agg ⟨b⟩) (ρ y)) (ha : a.length = n) (hb : b.length = n) {r : Bool} (h : placesEq l a b = some r) :
    Ok P ι w (execOp ρ o) (tf (negOf op) r) := by
  obtain ⟨_, a', ea, la⟩ := hx.aggE
  obtain ⟨_, b', eb, lb⟩ := hy.aggE
  refine q_eq ho hop ?_ (fun op hop => ?_) ?_
  · rw [ea, eb]
    rcases hop with rfl | rfl <;> simp [eqGuard, program, Sem.run, hq]
  · rw [ea, eb]; rcases hop with rfl | rfl <;> rfl
  · have h0 := places_real la lb h
    have hs : shiftL 0 l = l := by
      unfold shiftL
      conv => rhs; rw [← List.map_id l]
      apply List.map_congr_left
      intro p _
      simp
    obtain ⟨u, v, p1, p2, p3⟩ := leaves_ok (w := w) 20 T l hl true hg n hn hall 10000 (by omega) a' b' 0 r (by rw [hs]; exact h0)
    have cut : ∀ z : List Value, z.length = n → (part T ⟨z⟩ 0).run P w = .ok (.agg ⟨z⟩) w := by
      intro z hz
      have : (z.drop 0).take n = z := by rw [List.drop_zero, ← hz, List.take_length]
      simp only [part, Sem.run_bind, run_isAgg hg, Result.andThen, if_true, run_sizeOf hn, Sem.run_pure]
      congr 2
      apply Array.ext'
      simp [List.extract_eq_take_drop, ← hz]
    rw [cut a' (by rw [← la.length]; exact ha)] at p1
    rw [cut b' (by rw [← lb.length]; exact hb)] at p2
    cases p1; cases p2
    rw [ea, eb]
    exact run_equal p3
end
end Go.Ev

namespace Go.Ev
open Go (Sem)
def ckType : CK → TypeDesc → Prop
  | .bool, .bool => True | .int, .int _ => True | .str, .string => True
  | _, _ => False
theorem keyOne {c : CK} {x y : Value} : keyEq (some [c]) x y = (cellEq c).run x y := rfl
theorem keyMany {c c2 : CK} {r : List CK} {x y : Value} : keyEq (some (c :: c2 :: r)) x y = ob (asAgg x) fun a => ob (asAgg y) fun b => cellsEq (c :: c2 :: r) a b := rfl
theorem keyAgg {a : List Value} {y : Value} : keyEq none (.agg ⟨a⟩) y = ob (asAgg y) fun b => cellsEq (ckL a) a b := rfl
theorem cellsEq_nil (x y : List Value) : cellsEq [] x y = must (x.isEmpty && y.isEmpty) (some true) := rfl
theorem cellsEq_cons (k : CK) (ks : List CK) (x : Value) (xs : List Value) (y : Value) (ys : List Value) : cellsEq (k :: ks) (x :: xs) (y :: ys) = ob ((cellEq k).run x y) fun a => om (cellsEq ks xs ys) fun b => a && b := rfl
theorem ckL_cons (x : Value) (l : List Value) : ckL (x :: l) = ckOf x :: ckL l := rfl
theorem cell_eq {c : CK} (hc : c ≠ .skip) {x y : Value} {b : Bool} (h : (cellEq c).run x y = some b) :
    ckOf x = c ∧ (cellEq c).run y x = some b ∧ (b = true → x = y) ∧ (∀ ι x', VR ι x x' → x' = x) ∧ (∀ ι y', VR ι y y' → y' = y) ∧ (cellEq c).run x x = some true ∧ scal x ∧ (∀ n, Instr.sameBits n x x = true) := by
  cases c <;> simp only [cellEq] at h
  · obtain ⟨p, hp, h⟩ := ob_eq.1 h
    obtain ⟨q, hq, h⟩ := ob_eq.1 h
    obtain ⟨hk, h⟩ := must_eq.1 h
    rw [asInt_eq hp, asInt_eq hq]
    rw [kEq_eq] at hk
    have hk : p.1 = q.1 := by simpa using hk
    rw [iEq_eq] at h
    cases h
    have e1 : ∀ k a b, (cellEq .int).run (.int k a) (.int k b) = some (decide (a = b)) := by
      intro k a b
      show must (kEq k k) (some (iEq a b)) = _
      rw [kEq_eq, iEq_eq]; simp
    refine ⟨rfl, by rw [hk, e1]; congr 1; rw [Bool.eq_iff_iff]; simp [eq_comm], ?_, fun _ _ h => h.intE, fun _ _ h => h.intE, by rw [e1]; simp, trivial, fun n => by cases n <;> simp [Instr.sameBits]⟩
    intro h; have h : p.2 = q.2 := by simpa using h
    rw [hk, h]
  · obtain ⟨p, hp, h⟩ := ob_eq.1 h
    obtain ⟨q, hq, h⟩ := ob_eq.1 h
    rw [asStr_eq hp, asStr_eq hq]
    rw [bytesEq_eq] at h
    cases h
    have e1 : ∀ a b, (cellEq .str).run (strOf a) (strOf b) = some (decide (a = b)) := by
      intro a b
      show some (bytesEq a b) = _
      rw [bytesEq_eq]
    refine ⟨rfl, by rw [e1]; congr 1; rw [Bool.eq_iff_iff]; simp [eq_comm], ?_, fun _ _ h => h.strE, fun _ _ h => h.strE, by rw [e1]; simp, trivial, fun n => by rw [strOf]; cases n <;> (simp only [Instr.sameBits]; exact (Go.MapKept.bytes_beq _ _).2 rfl)⟩
    intro h; have h : p = q := by simpa using h
    rw [h]
  · obtain ⟨p, hp, h⟩ := ob_eq.1 h
    obtain ⟨q, hq, h⟩ := ob_eq.1 h
    rw [asBool_eq hp, asBool_eq hq]
    cases h
    refine ⟨rfl, ?_, ?_, fun _ _ h => h.boolE, fun _ _ h => h.boolE, ?_, trivial, fun n => by cases n <;> simp [Instr.sameBits]⟩
    · show some (q == p) = some (p == q)
      cases p <;> cases q <;> rfl
    · intro h; have h : p = q := by simpa using h
      rw [h]
    · show some (p == p) = _
      rw [beq_self_eq_true]
  · exact absurd rfl hc
theorem cells_eq : ∀ {ks : List CK}, (∀ c ∈ ks, c ≠ .skip) → ∀ {x y : List Value} {b : Bool}, cellsEq ks x y = some b →
    x.length = ks.length ∧ y.length = ks.length ∧ ckL x = ks ∧ cellsEq ks y x = some b ∧ (b = true → x = y) ∧ (∀ ι x', LR ι x x' → x' = x) ∧ (∀ ι y', LR ι y y' → y' = y) ∧ cellsEq ks x x = some true ∧ (∀ v ∈ x, scal v) ∧ (∀ n, ∀ v ∈ x, Instr.sameBits n v v = true) ∧ placesEq ((List.range ks.length).zip ks) x y = some b := by
  intro ks hs
  induction ks with
  | nil =>
    intro x y b h
    rw [cellsEq_nil] at h
    obtain ⟨h1, h2⟩ := must_eq.1 h
    cases h2
    rw [Bool.and_eq_true] at h1
    cases x <;> cases y <;> first | (cases h1.1; done) | (cases h1.2; done) | skip
    exact ⟨rfl, rfl, rfl, rfl, fun _ => rfl, fun _ _ h => by cases h; rfl, fun _ _ h => by cases h; rfl, rfl, by simp, by simp, rfl⟩
  | cons c ks ih =>
    intro x y b h
    cases x with
    | nil => cases h
    | cons u x => cases y with
      | nil => cases h
      | cons v y =>
        rw [cellsEq_cons] at h
        obtain ⟨r, hr, h⟩ := ob_eq.1 h
        obtain ⟨t, ht, h⟩ := om_eq.1 h
        subst h
        obtain ⟨a1, a2, a3, a4, a5, a6, a7, a8⟩ := cell_eq (hs c (by simp)) hr
        obtain ⟨b0, b0', b1, b2, b3, b4, b5, b6, b7, b8, b9⟩ := ih (fun c hc => hs c (by simp [hc])) ht
        refine ⟨by simp [b0], by simp [b0'], by rw [ckL_cons, a1, b1], by rw [cellsEq_cons, a2, b2]; rfl, ?_, ?_, ?_, by rw [cellsEq_cons, a6, b6]; rfl, ?_, ?_, ?_⟩
        · intro h
          rw [Bool.and_eq_true] at h
          rw [a3 h.1, b3 h.2]
        · intro ι x' hx
          cases hx with
          | cons h1 h2 => rw [a4 _ _ h1, b4 _ _ h2]
        · intro ι x' hx
          cases hx with
          | cons h1 h2 => rw [a5 _ _ h1, b5 _ _ h2]
        · intro w hw
          rcases List.mem_cons.1 hw with rfl | hw
          · exact a7
          · exact b7 w hw
        · intro n w hw
          rcases List.mem_cons.1 hw with rfl | hw
          · exact a8 n
          · exact b8 n w hw
        · have hz : (List.range (c :: ks).length).zip (c :: ks) = (0, c) :: ((List.range ks.length).zip ks).map fun p => (p.1 + 1, p.2) := by
            rw [List.length_cons, List.range_succ_eq_map, List.zip_cons_cons, List.zip_map_left]
            rfl
          have hsh : ∀ (l : List (Nat × CK)), placesEq (l.map fun p => (p.1 + 1, p.2)) (u :: x) (v :: y) = placesEq l x y := by
            intro l
            induction l with
            | nil => rfl
            | cons p l ih2 => rw [List.map_cons, places_cons, places_cons, ih2]; rfl
          rw [hz, places_cons, hsh, b9]
          show ob ((cellEq c).run u v) _ = _
          rw [hr]; rfl
section
variable {P : Program}
def KeyOk (P : Program) (kt : TypeId) (ks : List CK) : Prop :=
  (∃ c d, ks = [c] ∧ P.underlying kt = some d ∧ ckType c d) ∨
  (∃ fs l, P.underlying kt = some (.struct fs) ∧ leaves P 20 kt = some l ∧ sizeOf? P kt = some ks.length ∧ isAgg? P kt = some true ∧ l = (List.range ks.length).zip ks ∧ 2 ≤ ks.length ∧ (∀ c ∈ ks, c ≠ .skip) ∧
    ∀ f ∈ fs.toList, f.name ≠ "_" ∧ (∃ c d, P.underlying f.type = some d ∧ ckType c d) ∧ isAgg? P f.type = some false ∧ f.offset < ks.length)
theorem plainKey_eq {t : TypeId} {c : CK} (h : plainKey P t = some c) : ∃ d, P.underlying t = some d ∧ ckType c d := by
  unfold plainKey at h
  split at h <;> cases h <;> (rename_i h0; exact ⟨_, h0, trivial⟩)
theorem keyKs_eq {kt : TypeId} {ks : List CK} (h : keyKs P kt = some ks) : KeyOk P kt ks := by
  unfold keyKs at h
  split at h
  · rename_i c hc
    cases h
    obtain ⟨d, h1, h2⟩ := plainKey_eq hc
    exact .inl ⟨c, d, rfl, h1, h2⟩
  · unfold structKey at h
    split at h
    · rename_i fs l n h1 h2 h3
      split at h
      · rename_i hc
        cases h
        simp only [flatKey, Bool.and_eq_true, beq_iff_eq, decide_eq_true_eq, List.all_eq_true] at hc
        obtain ⟨⟨⟨⟨c1, c2⟩, c3⟩, c4⟩, c5⟩ := hc
        have hlen : l.length = n := by
          have := congrArg List.length c1
          simpa using this
        refine .inr ⟨fs, l, h1, h2, by simpa [hlen] using h3, c4, ?_, by simpa [hlen] using c2, ?_, ?_⟩
        · rw [List.length_map, hlen, ← c1]
          clear h1 h2 h3 c1 c2 c3 c4 c5 hlen
          induction l with
          | nil => rfl
          | cons p l ih => rw [List.map_cons, List.map_cons, List.zip_cons_cons, ← ih]
        · intro c hc
          obtain ⟨p, hp, rfl⟩ := List.mem_map.1 hc
          simpa using c5 p hp
        · intro f hf
          obtain ⟨⟨⟨d1, d2⟩, d3⟩, d4⟩ := c3 f hf
          refine ⟨by simpa using d1, ?_, d3, by simpa [hlen] using d4⟩
          cases e : plainKey P f.type with
          | none => rw [e] at d2; cases d2
          | some c => obtain ⟨d, e1, e2⟩ := plainKey_eq e; exact ⟨c, d, e1, e2⟩
      · cases h
    · cases h
theorem ckType_skip {c : CK} {d : TypeDesc} (h : ckType c d) : c ≠ .skip := by rintro rfl; cases d <;> exact h.elim
theorem key_eq {kt : TypeId} {ks : List CK} (hd : KeyOk P kt ks) {x y : Value} {b : Bool} (h : keyEq (some ks) x y = some b) :
    keyEq none x y = some b ∧ keyEq none y x = some b ∧ (b = true → x = y) ∧ (∀ ι x', VR ι x x' → x' = x) ∧ (∀ ι y', VR ι y y' → y' = y) ∧ keyEq (some ks) x x = some true ∧ Instr.sameBits 10000 x x = true ∧
      (∀ y', keyEq none x y' = keyEq (some ks) x y') ∧ ∀ w : World, (Op.equal kt x y).run P w = .ok b w := by
  rcases hd with ⟨c, d, rfl, hu, hcd⟩ | ⟨fs, l, hu, hl, hn, hg, rfl, h2, hs, _⟩
  · rw [keyOne] at h
    obtain ⟨a1, a2, a3, a4, a5, a6, _, a8⟩ := cell_eq (ckType_skip hcd) h
    have hno : ∀ y', keyEq none x y' = (cellEq c).run x y' := by
      intro y'
      cases c <;> simp only [cellEq] at h
      · obtain ⟨p, hp, _⟩ := ob_eq.1 h; rw [asInt_eq hp]; rfl
      · obtain ⟨p, hp, _⟩ := ob_eq.1 h; rw [asStr_eq hp]; rfl
      · obtain ⟨p, hp, _⟩ := ob_eq.1 h; rw [asBool_eq hp]; rfl
      · cases d <;> exact hcd.elim
    have hno2 : keyEq none y x = (cellEq c).run y x := by
      cases c <;> simp only [cellEq] at a2
      · obtain ⟨p, hp, _⟩ := ob_eq.1 a2; rw [asInt_eq hp]; rfl
      · obtain ⟨p, hp, _⟩ := ob_eq.1 a2; rw [asStr_eq hp]; rfl
      · obtain ⟨p, hp, _⟩ := ob_eq.1 a2; rw [asBool_eq hp]; rfl
      · cases d <;> exact hcd.elim
    refine ⟨by rw [hno, h], by rw [hno2, a2], a3, a4, a5, a6, a8 _, hno, fun w => ?_⟩
    have e10 : Op.maxDepth = 9999 + 1 := rfl
    unfold Op.equal
    rw [e10, Op.equalIn]
    simp only [Sem.run_bind, Go.run_underlying hu, Result.andThen]
    cases c <;> simp only [cellEq] at h
    · obtain ⟨p, hp, h⟩ := ob_eq.1 h
      obtain ⟨q, hq, h⟩ := ob_eq.1 h
      obtain ⟨hk, h⟩ := must_eq.1 h
      rw [asInt_eq hp, asInt_eq hq]
      rw [kEq_eq] at hk
      have hk : p.1 = q.1 := by simpa using hk
      rw [iEq_eq] at h
      cases h
      cases d <;> try exact hcd.elim
      simp [hk, Bool.beq_eq_decide_eq]
    · obtain ⟨p, hp, h⟩ := ob_eq.1 h
      obtain ⟨q, hq, h⟩ := ob_eq.1 h
      rw [asStr_eq hp, asStr_eq hq]
      rw [bytesEq_eq] at h
      cases h
      cases d <;> try exact hcd.elim
      simp only [strOf, Sem.run_pure]
      congr 1
      have : ((⟨⟨p⟩⟩ : ByteArray) == ⟨⟨q⟩⟩) = ((⟨p⟩ : Array UInt8) == ⟨q⟩) := rfl
      rw [this, Bool.eq_iff_iff]; simp
    · obtain ⟨p, hp, h⟩ := ob_eq.1 h
      obtain ⟨q, hq, h⟩ := ob_eq.1 h
      rw [asBool_eq hp, asBool_eq hq]
      cases h
      cases d <;> try exact hcd.elim
      rfl
    · cases d <;> exact hcd.elim
  · obtain ⟨c, c2, r, rfl⟩ : ∃ c c2 r, ks = c :: c2 :: r := by
      match ks, h2 with
      | c :: c2 :: r, _ => exact ⟨c, c2, r, rfl⟩
    rw [keyMany] at h
    obtain ⟨a, ha, h⟩ := ob_eq.1 h
    obtain ⟨b', hb, h⟩ := ob_eq.1 h
    rw [asAgg_eq ha, asAgg_eq hb]
    obtain ⟨p0, p0', p1, p2, p3, p4, p5, p6, p7, p8, p9⟩ := cells_eq hs h
    obtain ⟨_, _, p1', _⟩ := cells_eq hs p2
    refine ⟨by rw [keyAgg, p1]; exact h, by rw [keyAgg, p1']; exact p2, fun hb => by rw [p3 hb], ?_, ?_, p6, ?_, ?_, ?_⟩
    · intro ι x' hx
      obtain ⟨_, m, e1, e2⟩ := hx.aggE
      rw [e1, p4 _ _ e2]
    · intro ι x' hx
      obtain ⟨_, m, e1, e2⟩ := hx.aggE
      rw [e1, p5 _ _ e2]
    · show Instr.sameBits (9999 + 1) _ _ = true
      unfold Instr.sameBits
      simp only [beq_self_eq_true, Bool.true_and, List.all_eq_true]
      rintro ⟨u, v⟩ hm
      obtain ⟨i, hi⟩ := List.mem_iff_getElem?.1 hm
      rw [List.getElem?_zip_eq_some] at hi
      have : u = v := by
        have := hi.1.symm.trans hi.2
        cases this; rfl
      subst this
      exact p8 _ u (List.mem_of_getElem? hi.1)
    · intro y'
      rw [keyAgg, p1]; rfl
    · intro w
      have hsft : shiftL 0 ((List.range (c :: c2 :: r).length).zip (c :: c2 :: r)) = (List.range (c :: c2 :: r).length).zip (c :: c2 :: r) := by
        unfold shiftL
        conv => rhs; rw [← List.map_id ((List.range (c :: c2 :: r).length).zip (c :: c2 :: r))]
        apply List.map_congr_left
        intro p _
        simp
      have hall : (((List.range (c :: c2 :: r).length).zip (c :: c2 :: r)).all fun p => decide (p.1 < (c :: c2 :: r).length)) = true := by
        rw [List.all_eq_true]
        rintro ⟨i, k⟩ hm
        have := (List.of_mem_zip hm).1
        simpa using this
      obtain ⟨u, v, q1, q2, q3⟩ := leaves_ok (w := w) 20 kt _ hl true hg _ hn hall 10000 (by omega) a b' 0 b (by rw [hsft]; exact p9)
      have cut : ∀ z : List Value, z.length = (c :: c2 :: r).length → (part kt ⟨z⟩ 0).run P w = .ok (.agg ⟨z⟩) w := by
        intro z hz
        have : (z.drop 0).take (c :: c2 :: r).length = z := by rw [List.drop_zero, ← hz, List.take_length]
        simp only [part, Sem.run_bind, run_isAgg hg, Result.andThen, if_true, run_sizeOf hn, Sem.run_pure]
        congr 2
        apply Array.ext'
        simp [List.extract_eq_take_drop, ← hz]
      rw [cut a p0] at q1
      rw [cut b' p0'] at q2
      cases q1; cases q2
      exact q3
theorem run_checkKs {kt : TypeId} {ks : List CK} (hd : KeyOk P kt ks) {k : Value} {b : Bool} (h : keyEq (some ks) k k = some b) (e : Bool) (w : World) : (Instr.checkKey e 10000 kt k).run P w = .ok () w := by
  rw [show (10000 : Nat) = 9999 + 1 from rfl]
  unfold Instr.checkKey
  rcases hd with ⟨c, d, rfl, hu, hcd⟩ | ⟨fs, l, hu, hl, hn, hg, rfl, h2, hs, hf⟩
  · simp only [Sem.run_bind, Go.run_underlying hu, Result.andThen]
    cases c <;> cases d <;> first | exact hcd.elim | rfl
  · obtain ⟨c, c2, r, rfl⟩ : ∃ c c2 r, ks = c :: c2 :: r := by
      match ks, h2 with
      | c :: c2 :: r, _ => exact ⟨c, c2, r, rfl⟩
    rw [keyMany] at h
    obtain ⟨a, ha, h⟩ := ob_eq.1 h
    obtain ⟨b', hb, h⟩ := ob_eq.1 h
    rw [asAgg_eq ha]
    obtain ⟨p0, _⟩ := cells_eq hs h
    simp only [Sem.run_bind, Go.run_underlying hu, Result.andThen]
    rw [← Array.forIn_toList]
    generalize fs.toList = gs at hf
    induction gs with
    | nil => rfl
    | cons f gs ih =>
      obtain ⟨f1, ⟨c0, d, f2, f3⟩, f4, f5⟩ := hf f (by simp)
      have hp : (part f.type ⟨a⟩ f.offset).run P w = .ok (a[f.offset]'(by rw [p0]; exact f5)) w := by
        have hlt : f.offset < a.length := by rw [p0]; exact f5
        simp only [part, Sem.run_bind, run_isAgg f4, Result.andThen]
        simp [hlt]
      have hck : ∀ v, (Instr.checkKey e 9999 f.type v).run P w = .ok () w := by
        intro v
        rw [show (9999 : Nat) = 9998 + 1 from rfl]
        unfold Instr.checkKey
        simp only [Sem.run_bind, Go.run_underlying f2, Result.andThen]
        cases c0 <;> cases d <;> first | exact f3.elim | rfl
      rw [List.forIn_cons]
      simp only [f1, ne_eq, not_false_eq_true, if_true, Sem.run_bind, hp, hck, Result.andThen, Sem.run_pure]
      exact ih fun g hg => hf g (by simp [hg])
end
end Go.Ev

namespace Go.Ev
open Go (Sem)
theorem cells_symm {a b : List Value} (h : cellsEq (ckL a) a b = some false) : cellsEq (ckL b) b a = some false := by
  have hs : ∀ c ∈ ckL a, c ≠ .skip := by
    intro c hc
    clear h
    induction a with
    | nil => cases hc
    | cons x a ih =>
      rw [ckL_cons] at hc
      rcases List.mem_cons.1 hc with rfl | hc
      · cases x <;> simp [ckOf]
      · exact ih hc
  obtain ⟨_, _, _, p2, _⟩ := cells_eq hs h
  obtain ⟨_, _, p1', _⟩ := cells_eq hs p2
  rw [p1']; exact p2
theorem KA.symm {e f : Value × Value} (h : KA e f) : KA f e := by
  unfold KA at *
  obtain ⟨x, _⟩ := e
  obtain ⟨y, _⟩ := f
  simp only at *
  have one : ∀ (c : CK), c ≠ .skip → (cellEq c).run x y = some false → (∀ y', keyEq none y y' = (cellEq (ckOf y)).run y y') → keyEq none y x = some false := by
    intro c hc h hy
    obtain ⟨_, a2, _⟩ := cell_eq hc h
    obtain ⟨a1, _⟩ := cell_eq hc a2
    rw [hy, a1]; exact a2
  cases x with
  | bool b =>
    cases y with
    | bool b2 => exact one .bool (by simp) h fun _ => rfl
    | _ => cases h
  | int k n =>
    cases y with
    | int k2 n2 => exact one .int (by simp) h fun _ => rfl
    | _ => cases h
  | string b =>
    cases y with
    | string b2 => exact one .str (by simp) h fun _ => rfl
    | _ => cases h
  | agg a =>
    cases y with
    | agg b => exact cells_symm h
    | _ => cases h
  | _ => cases h
theorem KA.key {P : Program} {kt : TypeId} {ks : List CK} (hd : KeyOk P kt ks) {x : Value} {e f : Value × Value} (h : KA e f) (hx : keyEq (some ks) x e.1 = some true) : keyEq (some ks) x f.1 = some false := by
  obtain ⟨_, _, h3, _, _, _, _, h4, _⟩ := key_eq hd hx
  rw [← h4, h3 rfl]
  exact h
theorem keyFind_cons (ks : Option (List CK)) (k : Value) (e : Value × Value) (l : List (Value × Value)) : keyFind ks k (e :: l) = ob (keyEq ks k e.1) fun b => cnd b (some (some e)) (keyFind ks k l) := rfl
theorem keyPut_cons (ks : Option (List CK)) (k w : Value) (e : Value × Value) (l : List (Value × Value)) : keyPut ks k w (e :: l) = ob (keyEq ks k e.1) fun b => cnd b (some ((k, w) :: l)) (om (keyPut ks k w l) fun l => e :: l) := rfl
theorem keyDel_cons (ks : Option (List CK)) (k : Value) (e : Value × Value) (l : List (Value × Value)) : keyDel ks k (e :: l) = ob (keyEq ks k e.1) fun b => cnd b (some l) (om (keyDel ks k l) fun l => e :: l) := rfl
theorem keyFind_none {ks : Option (List CK)} {k : Value} : ∀ {l : List (Value × Value)}, keyFind ks k l = some none → ∀ e ∈ l, keyEq ks k e.1 = some false
  | [], _ => by simp
  | e :: l, h => by
    rw [keyFind_cons] at h
    obtain ⟨b, hb, h⟩ := ob_eq.1 h
    cases b with
    | true => cases h
    | false =>
      intro f hf
      rcases List.mem_cons.1 hf with rfl | hf
      · exact hb
      · exact keyFind_none h f hf
theorem keyFind_some {ks : Option (List CK)} {k : Value} : ∀ {l : List (Value × Value)} {e : Value × Value}, keyFind ks k l = some (some e) → keyEq ks k e.1 = some true ∧
      ∃ a b, l = a ++ e :: b ∧ (∀ w, keyPut ks k w l = some (a ++ (k, w) :: b)) ∧ keyDel ks k l = some (a ++ b)
  | [], e, h => by
    obtain ⟨_, _, h⟩ := om_eq.1 (show om (keyEq ks k k) (fun _ => none) = some (some e) from h)
    cases h
  | f :: l, e, h => by
    rw [keyFind_cons] at h
    obtain ⟨b, hb, h⟩ := ob_eq.1 h
    cases b with
    | true =>
      cases h
      refine ⟨hb, [], l, rfl, fun w => ?_, ?_⟩
      · rw [keyPut_cons, hb]; rfl
      · rw [keyDel_cons, hb]; rfl
    | false =>
      obtain ⟨h1, a, b, rfl, h2, h3⟩ := keyFind_some h
      refine ⟨h1, f :: a, b, rfl, fun w => ?_, ?_⟩
      · rw [keyPut_cons, hb]; simp [h2]
      · rw [keyDel_cons, hb]; simp [h3]
theorem keyNone {ks : Option (List CK)} {k : Value} {b : Bool} (hk : keyEq ks k k = some b) : ∀ {l : List (Value × Value)}, (∀ e ∈ l, keyEq ks k e.1 = some false) → (∀ w, keyPut ks k w l = some (l ++ [(k, w)])) ∧ keyDel ks k l = some l
  | [], _ => ⟨fun _ => rfl, by show om (keyEq ks k k) (fun _ => []) = _; rw [hk]; rfl⟩
  | e :: l, h => by
    have hb := h e (by simp)
    obtain ⟨h2, h3⟩ := keyNone hk (l := l) fun f hf => h f (by simp [hf])
    refine ⟨fun w => ?_, ?_⟩
    · rw [keyPut_cons, hb]; simp [h2]
    · rw [keyDel_cons, hb]; simp [h3]
theorem keyFind_self {P : Program} {kt : TypeId} {ks : List CK} (hd : KeyOk P kt ks) {k : Value} {l : List (Value × Value)} {q : Option (Value × Value)} (h : keyFind (some ks) k l = some q) : ∃ b, keyEq (some ks) k k = some b := by
  cases l with
  | nil =>
    obtain ⟨b, hb, _⟩ := om_eq.1 (show om (keyEq (some ks) k k) (fun _ => none) = some q from h)
    exact ⟨b, hb⟩
  | cons e l =>
    rw [keyFind_cons] at h
    obtain ⟨b, hb, _⟩ := ob_eq.1 h
    exact ⟨_, (key_eq hd hb).2.2.2.2.2.1⟩
section
variable {ι : Inj} {clk : Nat}
theorem ER.length {l : List (Value × Value)} {m : List MapEntry} (h : ER ι clk l m) : l.length = m.length := by
  induction h with
  | nil => rfl
  | cons _ _ _ _ ih => simp [ih]
theorem ER.split {a b : List (Value × Value)} {e : Value × Value} : ∀ {m : List MapEntry}, ER ι clk (a ++ e :: b) m → ∃ a' e' b', m = a' ++ e' :: b' ∧ ER ι clk a a' ∧ VR ι e.1 e'.key ∧ VR ι e.2 e'.val ∧ e'.born < clk ∧ ER ι clk b b' := by
  induction a with
  | nil =>
    intro m h
    cases h with
    | cons h1 h2 h3 t => exact ⟨[], _, _, rfl, .nil, h1, h2, h3, t⟩
  | cons f a ih =>
    intro m h
    cases h with
    | cons h1 h2 h3 t =>
      obtain ⟨a', e', b', rfl, g1, g2, g3, g4, g5⟩ := ih t
      exact ⟨_ :: a', e', b', rfl, .cons h1 h2 h3 g1, g2, g3, g4, g5⟩
theorem ER.append {a b : List (Value × Value)} {m n : List MapEntry} (h : ER ι clk a m) (h' : ER ι clk b n) : ER ι clk (a ++ b) (m ++ n) := by
  induction h with
  | nil => exact h'
  | cons h1 h2 h3 _ ih => exact .cons h1 h2 h3 ih
theorem ER.up {c : Nat} (hc : clk ≤ c) {a : List (Value × Value)} {m : List MapEntry} (h : ER ι clk a m) : ER ι c a m := by
  induction h with
  | nil => exact .nil
  | cons h1 h2 h3 _ ih => exact .cons h1 h2 (by omega) ih
theorem ER.born {a : List (Value × Value)} {m : List MapEntry} (h : ER ι clk a m) : ∀ e ∈ m, e.born < clk := by
  induction h with
  | nil => simp
  | cons h1 h2 h3 _ ih =>
    intro e he
    rcases List.mem_cons.1 he with rfl | he
    · exact h3
    · exact ih e he
theorem findAsking_no {P : Program} {w : World} {kt : TypeId} {ks : List CK} (hd : KeyOk P kt ks) {k k' : Value} (hk : VR ι k k') : ∀ {l : List (Value × Value)} {m : List MapEntry}, ER ι clk l m → (∀ e ∈ l, keyEq (some ks) k e.1 = some false) → ∀ (t : List MapEntry) (i : Nat),
    (Instr.findAsking kt k' (m ++ t) i).run P w = (Instr.findAsking kt k' t (i + l.length)).run P w := by
  intro l m h
  induction h with
  | nil => intro _ t i; rfl
  | cons h1 h2 h3 _ ih =>
    intro hall t i
    obtain ⟨_, _, _, g4, g5, _, _, _, g9⟩ := key_eq hd (hall _ List.mem_cons_self)
    have := ih (fun e he => hall e (by simp [he])) t (i + 1)
    rw [g4 _ _ hk] at this ⊢
    rw [List.cons_append, Instr.findAsking, g5 _ _ h1, Sem.run_bind, g9 w]
    simp only [Result.andThen, Bool.false_eq_true, if_false]
    rw [this]
    congr 2
    simp only [List.length_cons]; omega
theorem findKey_asks {P : Program} {w : World} {kt : TypeId} {ks : List CK} (hd : KeyOk P kt ks) {k' : Value} : ∀ {m : List MapEntry} (i : Nat) (d : TypeDesc) (_ : P.underlying kt = some d) (r : Option (Nat × Value)), Instr.findNow d k' m i = some r → (Instr.findAsking kt k' m i).run P w = .ok r w := by
  intro m
  induction m with
  | nil => intro i d hu r h; cases h; rfl
  | cons e m ih =>
    intro i d hu r h
    rw [Instr.findNow] at h
    rw [Instr.findAsking, Sem.run_bind]
    have key : ∀ v b, Instr.sameNow d k' v = some b → (Op.equal kt k' v).run P w = .ok b w := by
      clear h ih
      intro v b hb
      unfold Op.equal
      rw [show Op.maxDepth = 9999 + 1 from rfl, Op.equalIn]
      simp only [Sem.run_bind, Go.run_underlying hu, Result.andThen]
      unfold Instr.sameNow at hb
      split at hb
      · split at hb
        · rename_i hk
          cases hb
          simp [hk]
        · cases hb
      · cases hb; rfl
      · cases hb; rfl
      · cases hb
    cases hs : Instr.sameNow d k' e.key with
    | none => rw [hs] at h; cases h
    | some b =>
      rw [hs] at h
      rw [key _ b hs]
      cases b with
      | true => cases h; rfl
      | false => exact ih (i + 1) d hu r h
theorem run_findKs {P : Program} {w : World} {kt : TypeId} {ks : List CK} (hd : KeyOk P kt ks) {k' : Value} {m : List MapEntry} {r : Option (Nat × Value)} (h : (Instr.findAsking kt k' m 0).run P w = .ok r w) : (Instr.findKey kt k' m).run P w = .ok r w := by
  obtain ⟨d, hu⟩ : ∃ d, P.underlying kt = some d := by
    rcases hd with ⟨c, d, _, hu, _⟩ | ⟨fs, l, hu, _⟩
    · exact ⟨_, hu⟩
    · exact ⟨_, hu⟩
  unfold Instr.findKey
  rw [Sem.run_bind, Go.run_underlying hu]
  simp only [Result.andThen]
  cases hn : Instr.findNow d k' m 0 with
  | none => exact h
  | some r2 =>
    have := findKey_asks (w := w) hd 0 d hu r2 hn
    rw [h] at this
    cases this
    rfl
end
section
variable {P : Program} {ι : Inj} {w : World} {base : Nat} {s : St} {o : Oper} {ρ : Operand → Value}
theorem find_ok {kt : TypeId} {ks : List CK} (hd : KeyOk P kt ks) {k k' : Value} (hk : VR ι k k') {es : List (Value × Value)} {clk : Nat} {es' : Array MapEntry} (he : entsR ι es clk es') {r : Option (Value × Value)} (h : keyFind (some ks) k es = some r) :
    (r = none ∧ (∀ w : World, (Instr.findKey kt k' es'.toList).run P w = .ok none w) ∧ ∀ e ∈ es, keyEq (some ks) k e.1 = some false) ∨
    ∃ e p1 p2 a' e' b', r = some e ∧ (p1 ++ e :: p2).Perm es ∧ es'.toList = a' ++ e' :: b' ∧ ER ι clk p1 a' ∧ VR ι e.1 e'.key ∧ VR ι e.2 e'.val ∧ e'.born < clk ∧ ER ι clk p2 b' ∧ e.1 = k ∧ e'.key = k' ∧
      ∀ w : World, (Instr.findKey kt k' es'.toList).run P w = .ok (some (a'.length, e'.val)) w := by
  obtain ⟨h1, ⟨p, hp, her⟩, h3⟩ := he
  cases r with
  | none =>
    have hall := keyFind_none h
    refine .inl ⟨rfl, fun w => run_findKs hd ?_, hall⟩
    have := findAsking_no (w := w) hd hk her (fun e he => hall e (hp.mem_iff.1 he)) [] 0
    rw [List.append_nil] at this
    rw [this]; rfl
  | some e =>
    obtain ⟨g1, a, b, rfl, _, _⟩ := keyFind_some h
    have hmem : e ∈ p := hp.mem_iff.2 (by simp)
    obtain ⟨p1, p2, rfl⟩ := List.append_of_mem hmem
    have hpw : (p1 ++ e :: p2).Pairwise KA := (hp.pairwise_iff (fun h => KA.symm h)).2 h1
    obtain ⟨a', e', b', hm, k1, k2, k3, k4, k5⟩ := her.split
    obtain ⟨q1, q2, q3, q4, q5, q6, q7, q8, q9⟩ := key_eq hd g1
    have q3 := q3 rfl
    have hk' := q4 _ _ hk
    have he' := q5 _ _ k2
    refine .inr ⟨e, p1, p2, a', e', b', rfl, hp, hm, k1, k2, k3, k4, k5, q3.symm, by rw [he', hk', q3], fun w => run_findKs hd ?_⟩
    rw [hm, findAsking_no hd hk k1 ?_, Instr.findAsking, Sem.run_bind, hk', he', q9 w]
    · simp [k1.length, Result.andThen]
    · intro f hf
      have : KA f e := (List.pairwise_append.1 hpw).2.2 f hf e (by simp)
      exact this.symm.key hd g1
end
end Go.Ev

namespace Go.Ev
open Go (Sem)
open Go.MapKept (run_setObj_map run_findKey heap_set bytes_beq)
section
variable {P : Program} {ι : Inj} {w : World} {base : Nat} {s : St} {o : Oper} {ρ : Operand → Value}
theorem run_getObj_map {r : Nat} {es : Array MapEntry} {clk : Nat} (h : w.heap[r]? = some (.map es clk)) : (getObj r).run P w = .ok (.map es clk) w := by
  simp [getObj, Sem.run, h]
theorem Rel.ents (r : Rel ι base s w) {a : Nat} {es : List (Value × Value)} {c : Nat} (h : s.get a = some (.map es c)) {B : Blk} (hB : ι a = some B) : ∃ es' clk', w.heap[B.b]? = some (.map es' clk') ∧ entsR ι es clk' es' := by
  obtain ⟨B', h1, h2⟩ := r.ob a _ h rfl
  rw [hB] at h1; cases h1
  exact h2
theorem d_mkMap (r : Rel ι base s w) {T : TypeId} {h : Option Operand} (ho : o.op = .makeMap T h) (hT : h.isSome = true → ∃ k e, P.underlying T = some (.map k e)) (hh : ∀ x, h = some x → ∃ n : IntKind × Int, ρ x = .int n.1 n.2) {id : Nat} (h1 : id < s.next) (h2 : s.get id = none) (h3 : ι id = none) :
    Does P (· = id) ι base s w (execOp ρ o) (.map (some id)) (s.set id (.map [] 0)) := by
  refine Does.of (κ := ι.put id ⟨w.heap.size, 0, 0, 0⟩) (v' := .map (some w.heap.size)) (w' := { w with heap := w.heap.push (.map #[] 0) }) ?_ ?_ ?_
  rotate_left 1
  · refine Ext.new r id _ (.map #[] 0) 0 0 h1 h2 h3 rfl rfl rfl rfl rfl ?_
    exact ⟨#[], 0, heap_push_get w _, .nil, ⟨[], .nil, .nil⟩, .nil⟩
  · exact .map (Inj.put_same _ _ _)
  · simp only [execOp, ho]
    refine run_v ?_
    cases h with
    | none => simp [Instr.makeMap, newObj, Sem.run, Result.andThen]
    | some x =>
      obtain ⟨n, hn⟩ := hh x rfl
      obtain ⟨k, e, hT⟩ := hT rfl
      simp [Instr.makeMap, newObj, Sem.run, Go.run_underlying hT, hn, Go.asInt, asIntOf, Result.andThen]
theorem q_lookup (r : Rel ι base s w) {T kt e : TypeId} {m k : Operand} {ok : Bool} (ho : o.op = .lookup T m k ok) (hT : P.underlying T = some (.map kt e)) {ks : List CK} (hd : KeyOk P kt ks) {z : Value} (hz : zeroOf P e = some z)
    {M K : Value} (hM : VR ι M (ρ m)) (hK : VR ι K (ρ k)) {es : List (Value × Value)} (he : mapEnts s M = some es) {q : Option (Value × Value)} (hq : keyFind (some ks) K es = some q) :
    Ok P ι w (execOp ρ o) (cnd ok (.tuple ⟨[found z q, .bool q.isSome]⟩) (found z q)) := by
  obtain ⟨b0, hself0⟩ := keyFind_self hd hq
  have hself : keyEq (some ks) (ρ k) (ρ k) = some b0 := by rw [(key_eq hd hself0).2.2.2.1 _ _ hK]; exact hself0
  obtain ⟨hz1, hz2⟩ := run_zeroValue (w := w) hz
  obtain ⟨a, ha, he⟩ := ob_eq.1 he
  rw [asMap_eq ha] at hM
  have key : ∃ es' : Array MapEntry, ((ρ m = .map none ∧ es' = #[]) ∨ ∃ b c, ρ m = .map (some b) ∧ w.heap[b]? = some (.map es' c)) ∧ ∃ clk, entsR ι es clk es' := by
    rcases hM.mapE with ⟨rfl, hm⟩ | ⟨b, B, rfl, hB, hm⟩
    · cases he
      exact ⟨#[], .inl ⟨hm, rfl⟩, 0, .nil, ⟨[], .nil, .nil⟩, .nil⟩
    · obtain ⟨⟨es0, c0⟩, h1, h2⟩ := om_eq.1 he
      simp only at h2
      subst h2
      obtain ⟨es', clk', g1, g2⟩ := r.ents (asEnts_eq h1) hB
      exact ⟨es', .inr ⟨_, _, hm, g1⟩, clk', g2⟩
  obtain ⟨es', k1, clk, k2⟩ := key
  have fin : ∀ (v v' : Value) (b : Bool) (f : Option (Nat × Value)), VR ι v v' → (∀ w : World, (Instr.findKey kt (ρ k) es'.toList).run P w = .ok f w) → ((f = none ∧ v' = z ∧ b = false) ∨ ∃ i, f = some (i, v') ∧ b = true) →
      Ok P ι w (execOp ρ o) (cnd ok (.tuple ⟨[v, .bool b]⟩) v) := by
    intro v v' b f hv hf hb
    refine ⟨if ok then .tuple #[v', .bool b] else v', ?_, ?_⟩
    · simp only [execOp, ho]
      refine run_v ?_
      unfold Instr.lookup
      rcases k1 with ⟨hm, rfl⟩ | ⟨b1, c1, hm, hb1⟩
      · have hf0 : ∀ w : World, (Instr.findKey kt (ρ k) []).run P w = .ok f w := hf
        rcases hb with ⟨rfl, rfl, rfl⟩ | ⟨i, rfl, rfl⟩ <;> cases ok <;> simp [Go.run_underlying hT, Result.andThen, hm, run_checkKs hd hself, hf0, hz1]
      · rcases hb with ⟨rfl, rfl, rfl⟩ | ⟨i, rfl, rfl⟩ <;> cases ok <;> simp [Go.run_underlying hT, Result.andThen, hm, run_getObj_map hb1, run_checkKs hd hself, hf, hz1]
    · cases ok
      · exact hv
      · exact .tupI (.cons hv (.cons (.bool _) .nil))
  rcases find_ok hd hK k2 hq with ⟨rfl, h1, _⟩ | ⟨e0, p1, p2, a', e', b', rfl, _, _, _, _, h2, _, _, _, _, h1⟩
  · exact fin z z false none (.plainV hz2) h1 (.inl ⟨rfl, rfl, rfl⟩)
  · exact fin e0.2 e'.val true _ h2 h1 (.inr ⟨_, rfl, rfl⟩)
theorem q_lenM (r : Rel ι base s w) {c : Call} (ho : o.op = .call c) (hc : c.callee = .builtin .len) {t kt e : TypeId} {x : Operand} (ha : c.args = #[x]) (ht : c.argTypes[0]? = some t) (hT : P.underlying t = some (.map kt e)) {X : Value} (hX : VR ι X (ρ x))
    {es : List (Value × Value)} (he : mapEnts s X = some es) : Ok P ι w (execOp ρ o) (num (Int.ofNat es.length)) := by
  refine ⟨_, ?_, .int _ _⟩
  refine run_call_len ho hc (m := Builtin.len_ c.argTypes o.type (c.args.map ρ)) (fun _ => rfl) ?_
  obtain ⟨a, ha', he⟩ := ob_eq.1 he
  rw [asMap_eq ha'] at hX
  rw [ha]
  rcases hX.mapE with ⟨rfl, hm⟩ | ⟨b, B, rfl, hB, hm⟩
  · cases he
    simp [Builtin.len_, ht, hm, Go.run_underlying hT, Result.andThen, num, goInt]
  · obtain ⟨⟨es0, c0⟩, h1, h2⟩ := om_eq.1 he
    simp only at h2
    subst h2
    obtain ⟨es', clk', g1, g2⟩ := r.ents (asEnts_eq h1) hB
    obtain ⟨_, ⟨p, hp, hER⟩, _⟩ := g2
    have hlen : es'.size = es0.length := by rw [← hp.length_eq, hER.length]; simp
    simp [Builtin.len_, ht, hm, Go.run_underlying hT, Result.andThen, num, goInt, run_getObj_map g1, hlen]
theorem setObj_map {r : Nat} {es : Array MapEntry} {clk : Nat} (h : w.heap[r]? = some (.map es clk)) (o' : Obj) : (setObj r o').run P w = .ok () { w with heap := w.heap.setIfInBounds r o' } := run_setObj_map o' h
theorem ent_write (r : Rel ι base s w) {a : Nat} {es : List (Value × Value)} {c : Nat} (h : s.get a = some (.map es c)) {B : Blk} (hB : ι a = some B) {es' : Array MapEntry} {clk' : Nat} (hw : w.heap[B.b]? = some (.map es' clk'))
    {es2 : List (Value × Value)} {c2 clk2 : Nat} {es2' : Array MapEntry} (he : entsR ι es2 clk2 es2') (S : Nat → Prop) : Ext S ι base s w ι (s.set a (.map es2 c2)) { w with heap := w.heap.setIfInBounds B.b (.map es2' clk2) } := by
  obtain ⟨g1, g2⟩ := heap_set (o' := .map es2' clk2) hw
  exact Ext.write r a _ (.map es2 c2) B h rfl hB (by simp) (fun b hb => g2 b hb) rfl rfl rfl ⟨es2', clk2, g1, he⟩
theorem d_mapSet (r : Rel ι base s w) {T kt e : TypeId} {m k x : Operand} (ho : o.op = .mapUpdate T m k x ∨ o.op = .insert T m k x) (hT : P.underlying T = some (.map kt e)) {ks : List CK} (hd : KeyOk P kt ks) {fr : Fr}
    (hM : VR ι ((rArg m).ev fr) (ρ m)) (hK : VR ι ((rArg k).ev fr) (ρ k)) (hX : VR ι ((rArg x).ev fr) (ρ x)) {v : Value} {s' : St} {id : Nat} (h : cMapSet (some ks) (rArg m) (rArg k) (rArg x) fr s id = some (v, s')) (S : Nat → Prop) :
    Does P S ι base s w (execOp ρ o) v s' := by
  obtain ⟨a0, h1, h8⟩ := ob_eq.1 h
  obtain ⟨a, h2, h9⟩ := ob_eq.1 h8
  clear h h8
  cases h2
  obtain ⟨⟨es, c0⟩, h3, h10⟩ := ob_eq.1 h9
  obtain ⟨q, h4, h6⟩ := ob_eq.1 h10
  obtain ⟨es2, h5, h7⟩ := om_eq.1 h6
  cases h7
  simp only at h3 h4 h5
  obtain ⟨b0, hself0⟩ := keyFind_self hd h4
  have hself : keyEq (some ks) (ρ k) (ρ k) = some b0 := by rw [(key_eq hd hself0).2.2.2.1 _ _ hK]; exact hself0
  rw [asMap_eq h1] at hM
  obtain ⟨hh, _⟩ | ⟨b, B, hb, hB, hm⟩ := hM.mapE
  · cases hh
  cases hb
  obtain ⟨es', clk', g1, g2⟩ := r.ents (asEnts_eq h3) hB
  have hrun : ∀ (w' : World), (do
      match ← Instr.findKey kt (ρ k) es'.toList with
      | some (i, _) => do
        let key ← Instr.keyThatStays (((es'[i]?).map (·.key)).getD (ρ k)) (ρ k)
        setObj B.b (.map (es'.modify i fun e => { e with key, val := ρ x }) clk')
      | none => setObj B.b (.map (es'.push { key := ρ k, val := ρ x, born := clk' }) (clk' + 1)) : Sem Unit).run P w = .ok () w' → (execOp ρ o).run P w = .ok .skip w' := by
    intro w' hr
    have : (Instr.mapUpdate T (ρ m) (ρ k) (ρ x)).run P w = .ok () w' := by
      unfold Instr.mapUpdate
      rw [Sem.run_bind, Go.run_underlying hT]
      simp only [Result.andThen, hm, Sem.run_bind, run_getObj_map g1, run_checkKs hd hself]
      simp only [Sem.run_bind] at hr
      exact hr
    rcases ho with ho | ho <;> simp [execOp, ho, this, Result.andThen]
  obtain ⟨hpw, ⟨p, hp, hER⟩, hnd⟩ := g2
  rcases find_ok hd hK ⟨hpw, ⟨p, hp, hER⟩, hnd⟩ h4 with ⟨rfl, f1, f2⟩ | ⟨e0, p1, p2, a', e', b', rfl, f1, f2, f3, f4, f5, f6, f7, f8, f9, f10⟩
  · -- a new key
    rw [(keyNone hself0 f2).1] at h5
    cases h5
    refine Does.skip (hrun _ ?_) (ent_write (es2' := es'.push { key := ρ k, val := ρ x, born := clk' }) (clk2 := clk' + 1) r (asEnts_eq h3) hB g1 ?_ S)
    · rw [Sem.run_bind, f1]
      simp only [Result.andThen]
      exact setObj_map g1 _
    · refine ⟨?_, ⟨p ++ [((rArg k).ev fr, (rArg x).ev fr)], hp.append_right _, ?_⟩, ?_⟩
      · rw [List.pairwise_append]
        refine ⟨hpw, by simp, ?_⟩
        intro f hf g hg
        simp only [List.mem_singleton] at hg
        subst hg
        exact (key_eq hd (f2 f hf)).2.1
      · rw [Array.toList_push]
        exact (hER.up (by omega)).append (.cons hK hX (by simp) .nil)
      · rw [Array.toList_push, List.map_append, List.nodup_append]
        refine ⟨hnd, by simp, ?_⟩
        intro q hq t ht hqt
        simp only [List.map_cons, List.map_nil, List.mem_singleton] at ht
        obtain ⟨f, hf, rfl⟩ := List.mem_map.1 hq
        have := hER.born f hf
        omega
  · -- an old one
    obtain ⟨k1, a1, b1, rfl, k2, _⟩ := keyFind_some h4
    rw [k2] at h5
    cases h5
    have hmod : es'.modify a'.length (fun e => { e with key := ρ k, val := ρ x }) = ⟨a' ++ { e' with key := ρ k, val := ρ x } :: b'⟩ := by
      have : es' = ⟨a' ++ e' :: b'⟩ := by rw [← f2]
      subst this
      apply Array.ext_getElem?
      intro i
      rw [Array.getElem?_modify, arr_get, arr_get]
      by_cases hi : a'.length = i
      · subst hi; simp
      · rw [if_neg hi]
        rcases Nat.lt_or_gt_of_ne hi with hlt | hgt
        · rw [List.getElem?_append_right (by omega), List.getElem?_append_right (by omega)]
          obtain ⟨j, hj⟩ : ∃ j, i - a'.length = j + 1 := ⟨i - a'.length - 1, by omega⟩
          rw [hj]; rfl
        · rw [List.getElem?_append_left (by omega), List.getElem?_append_left (by omega)]
    refine Does.skip (hrun _ ?_) (ent_write (es2' := ⟨a' ++ { e' with key := ρ k, val := ρ x } :: b'⟩) (clk2 := clk') r (asEnts_eq h3) hB g1 ?_ S)
    · rw [Sem.run_bind, f10]
      simp only [Result.andThen]
      have hold : (((es'[a'.length]?).map (·.key)).getD (ρ k)) = ρ k := by
        rw [← Array.getElem?_toList, f2]; simp [f9]
      have hsb : Instr.sameBits 10000 (ρ k) (ρ k) = true := by
        rw [(key_eq hd k1).2.2.2.1 _ _ hK]; exact (key_eq hd k1).2.2.2.2.2.2.1
      rw [Sem.run_bind, hold]
      simp only [Instr.keyThatStays, hsb, if_true, Sem.run_pure, Result.andThen]
      rw [hmod]
      exact setObj_map g1 _
    · have hke : e0.1 = (rArg k).ev fr := f8
      refine ⟨?_, ⟨p1 ++ ((rArg k).ev fr, (rArg x).ev fr) :: p2, ?_, ?_⟩, ?_⟩
      · rw [List.pairwise_append, List.pairwise_cons] at hpw ⊢
        obtain ⟨q1, ⟨q2, q3⟩, q4⟩ := hpw
        refine ⟨q1, ⟨fun f hf => ?_, q3⟩, fun f hf g hg => ?_⟩
        · have := q2 f hf; unfold KA at *; rw [← hke]; exact this
        · rcases List.mem_cons.1 hg with rfl | hg
          · have := q4 f hf e0 (by simp); unfold KA at *; rw [← hke]; exact this
          · exact q4 f hf g (by simp [hg])
      · have e1 : (e0 :: (p1 ++ p2)).Perm (e0 :: (a1 ++ b1)) := (List.perm_middle.symm.trans f1).trans List.perm_middle
        have e2 := (List.perm_cons _).1 e1
        exact (List.perm_middle.trans ((List.perm_cons _).2 e2)).trans List.perm_middle.symm
      · exact f3.append (.cons hK hX f6 f7)
      · rw [f2] at hnd
        simpa using hnd
end
end Go.Ev

namespace Go.Ev
open Go (Sem)
open Go.MapKept (run_setObj_map run_findKey heap_set bytes_beq)
section
variable {P : Program} {ι : Inj} {w : World} {base : Nat} {s : St} {o : Oper} {ρ : Operand → Value}
theorem d_delete (r : Rel ι base s w) {cl : Call} (ho : o.op = .call cl) (hcl : cl.callee = .builtin .delete) {T kt e : TypeId} {m k : Operand} (ht : cl.argTypes[0]? = some T) (ha : cl.args.toList = [m, k]) (hT : P.underlying T = some (.map kt e)) {ks : List CK} (hd : KeyOk P kt ks) {fr : Fr}
    (hM : VR ι ((rArg m).ev fr) (ρ m)) (hK : VR ι ((rArg k).ev fr) (ρ k)) {v : Value} {s' : St} {id : Nat} (h : cDelete (some ks) (rArg m) (rArg k) fr s id = some (v, s')) (S : Nat → Prop) :
    Does P S ι base s w (execOp ρ o) v s' := by
  obtain ⟨a0, h1, h8⟩ := ob_eq.1 h
  have hselfOf : ∀ {b0 : Bool}, keyEq (some ks) ((rArg k).ev fr) ((rArg k).ev fr) = some b0 → keyEq (some ks) (ρ k) (ρ k) = some b0 := by
    intro b0 h0
    rw [(key_eq hd h0).2.2.2.1 _ _ hK]; exact h0
  have hrun : ∀ w' m', (Builtin.delete_ cl.argTypes o.type #[ρ m, ρ k]).run P w = .ok m' w' → (execOp ρ o).run P w = .ok (.value m') w' := by
    intro w' m' g
    refine run_call_len ho hcl (m := Builtin.delete_ cl.argTypes o.type (cl.args.map ρ)) (fun _ => rfl) ?_
    rw [arr2 ha]
    simpa using g
  rw [asMap_eq h1] at hM
  rcases hM.mapE with ⟨rfl, hm⟩ | ⟨b, B, rfl, hB, hm⟩
  · obtain ⟨b0, hself0, h8⟩ := om_eq.1 (show om (keyEq (some ks) ((rArg k).ev fr) ((rArg k).ev fr)) (fun _ => (undef, s)) = some (v, s') from h8)
    have hself := hselfOf hself0
    cases h8
    refine Does.of (hrun w undef ?_) (Ext.refl r) .undef
    simp [Builtin.delete_, ht, hm, Go.run_underlying hT, Result.andThen, run_checkKs hd hself]
    rfl
  · obtain ⟨⟨es, c0⟩, h3, h10⟩ := ob_eq.1 h8
    obtain ⟨es2, h5, h7⟩ := om_eq.1 h10
    cases h7
    simp only at h3 h5
    obtain ⟨es', clk', g1, g2⟩ := r.ents (asEnts_eq h3) hB
    have hfind : ∃ q, keyFind (some ks) ((rArg k).ev fr) es = some q := by
      clear h h8 h10 g2 h3
      generalize (rArg k).ev fr = K at h5
      induction es generalizing es2 with
      | nil =>
        obtain ⟨b2, hb, _⟩ := om_eq.1 (show om (keyEq (some ks) K K) (fun _ => []) = some es2 from h5)
        exact ⟨none, by show om (keyEq (some ks) K K) (fun _ => none) = _; rw [hb]; rfl⟩
      | cons f l ih =>
        rw [keyDel_cons] at h5
        obtain ⟨b2, hb, h5'⟩ := ob_eq.1 h5
        rw [keyFind_cons, hb]
        cases b2 with
        | true => exact ⟨some f, rfl⟩
        | false =>
          obtain ⟨l2, h6, _⟩ := om_eq.1 h5'
          exact ih _ h6
    obtain ⟨q, hq⟩ := hfind
    obtain ⟨b0, hself0⟩ := keyFind_self hd hq
    have hself := hselfOf hself0
    obtain ⟨hpw, ⟨p, hp, hER⟩, hnd⟩ := g2
    rcases find_ok hd hK ⟨hpw, ⟨p, hp, hER⟩, hnd⟩ hq with ⟨rfl, f1, f2⟩ | ⟨e0, p1, p2, a', e', b', rfl, f1, f2, f3, f4, f5, f6, f7, f8, f9, f10⟩
    · rw [(keyNone hself0 f2).2] at h5
      cases h5
      refine Does.of (hrun _ undef ?_) (ent_write (es2' := es') (clk2 := clk') (c2 := c0) r (asEnts_eq h3) hB g1 ⟨hpw, ⟨p, hp, hER⟩, hnd⟩ S) .undef
      simp [Builtin.delete_, ht, hm, Go.run_underlying hT, Result.andThen, run_getObj_map g1, run_checkKs hd hself, f1, setObj_map g1]
      rfl
    · obtain ⟨k1, a1, b1, rfl, _, k2⟩ := keyFind_some hq
      rw [k2] at h5
      cases h5
      have hmod : es'.eraseIdxIfInBounds a'.length = ⟨a' ++ b'⟩ := by
        have : es' = ⟨a' ++ e' :: b'⟩ := by rw [← f2]
        subst this
        apply Array.ext'
        rw [Array.toList_eraseIdxIfInBounds, List.eraseIdx_append_of_length_le (Nat.le_refl _)]
        simp
      refine Does.of (hrun _ undef ?_) (ent_write (es2' := ⟨a' ++ b'⟩) (clk2 := clk') (c2 := c0) r (asEnts_eq h3) hB g1 ?_ S) .undef
      · simp [Builtin.delete_, ht, hm, Go.run_underlying hT, Result.andThen, run_getObj_map g1, run_checkKs hd hself, f10, hmod, setObj_map g1]
        rfl
      · refine ⟨hpw.sublist ?_, ⟨p1 ++ p2, ?_, f3.append f7⟩, ?_⟩
        · exact List.Sublist.append_left (List.sublist_cons_self _ _) _
        · have e1 : (e0 :: (p1 ++ p2)).Perm (e0 :: (a1 ++ b1)) := (List.perm_middle.symm.trans f1).trans List.perm_middle
          exact (List.perm_cons _).1 e1
        · rw [f2] at hnd
          refine List.Nodup.sublist ?_ hnd
          exact (List.Sublist.append_left (List.sublist_cons_self _ _) _).map _
theorem d_clearM (r : Rel ι base s w) {cl : Call} (ho : o.op = .call cl) (hcl : cl.callee = .builtin .clear) {T kt e : TypeId} {m : Operand} (ht : cl.argTypes[0]? = some T) (ha : cl.args.toList = [m]) (hT : P.underlying T = some (.map kt e)) {fr : Fr}
    (hM : VR ι ((rArg m).ev fr) (ρ m)) {v : Value} {s' : St} {id : Nat} (h : cClearM (rArg m) fr s id = some (v, s')) (S : Nat → Prop) :
    Does P S ι base s w (execOp ρ o) v s' := by
  obtain ⟨a0, h1, h8⟩ := ob_eq.1 h
  have hrun : ∀ w' m', (Builtin.clear_ cl.argTypes o.type #[ρ m]).run P w = .ok m' w' → (execOp ρ o).run P w = .ok (.value m') w' := by
    intro w' m' g
    refine run_call_len ho hcl (m := Builtin.clear_ cl.argTypes o.type (cl.args.map ρ)) (fun _ => rfl) ?_
    rw [arr1 ha]
    simpa using g
  rw [asMap_eq h1] at hM
  rcases hM.mapE with ⟨rfl, hm⟩ | ⟨b, B, rfl, hB, hm⟩
  · cases h8
    refine Does.of (hrun w undef ?_) (Ext.refl r) .undef
    simp [Builtin.clear_, ht, hm, Go.run_underlying hT, Result.andThen]
    rfl
  · obtain ⟨⟨es, c0⟩, h3, h7⟩ := om_eq.1 h8
    cases h7
    obtain ⟨es', clk', g1, g2⟩ := r.ents (asEnts_eq h3) hB
    refine Does.of (hrun _ undef ?_) (ent_write (es2' := #[]) (clk2 := clk') (c2 := c0) (es2 := []) r (asEnts_eq h3) hB g1 ⟨.nil, ⟨[], .nil, .nil⟩, .nil⟩ S) .undef
    simp [Builtin.clear_, ht, hm, Go.run_underlying hT, Result.andThen, run_getObj_map g1, setObj_map g1]
    rfl
theorem toByte_eq {l : List Value} : ∀ {b : List UInt8}, optL toByte l = some b → ∃ ns : List Int, l = ns.map (fun n => Value.int .u8 n) ∧ b = ns.map (fun n => UInt8.ofNat n.toNat) := by
  induction l with
  | nil => intro b h; cases h; exact ⟨[], rfl, rfl⟩
  | cons x l ih =>
    intro b h
    rw [optL_cons] at h
    obtain ⟨c, hc, h⟩ := ob_eq.1 h
    obtain ⟨b2, hb2, h⟩ := om_eq.1 h
    obtain ⟨ns, rfl, rfl⟩ := ih hb2
    obtain ⟨p, hp, hc⟩ := ob_eq.1 hc
    obtain ⟨hk, hc⟩ := must_eq.1 hc
    rw [kEq_eq] at hk
    have hk : p.1 = .u8 := by simpa using hk
    cases hc
    subst h
    refine ⟨p.2 :: ns, ?_, rfl⟩
    rw [asInt_eq hp, hk]; rfl
theorem foldl_push (ns : List Int) : ∀ b : ByteArray, (ns.foldl (fun r n => r.push (UInt8.ofNat n.toNat)) b) = ⟨⟨b.data.toList ++ ns.map (fun n => UInt8.ofNat n.toNat)⟩⟩ := by
  induction ns with
  | nil => intro b; simp
  | cons n ns ih =>
    intro b
    rw [List.foldl_cons, ih]
    have : (b.push (UInt8.ofNat n.toNat)).data.toList = b.data.toList ++ [UInt8.ofNat n.toNat] := by
      show (b.data.push _).toList = _
      simp
    rw [this]; simp
theorem q_convBS (r : Rel ι base s w) {S D E : TypeId} {x : Operand} (ho : o.op = .convert S D x) (hS : P.underlying S = some (.slice E)) (hD : P.underlying D = some .string) (hE : P.underlying E = some (.int .u8)) {X : Value} (hX : VR ι X (ρ x))
    {p : Option Addr × Nat × Nat} (e : asSl X = some p) {l : List Value} (hl : s.elems 1 X p.2.1 = some l) {b : List UInt8} (hb : optL toByte l = some b) : Ok P ι w (execOp ρ o) (strOf b) := by
  refine ⟨strOf b, ?_, .string _⟩
  simp only [execOp, ho]
  refine run_v ?_
  have hn : lenOf X = some p.2.1 := by rw [asSl_eq e]; rfl
  generalize p.2.1 = n at hn hl
  obtain ⟨f1, news, f2, f3, f4, f5⟩ := firstCells_ok (P := P) r hX hn (Nat.le_refl _) hl
  obtain ⟨ns, rfl, rfl⟩ := toByte_eq hb
  have hnews : news = ns.map (fun n => Value.int .u8 n) := by
    apply List.ext_getElem?
    intro i
    cases e : (ns.map (fun n => Value.int .u8 n))[i]? with
    | none =>
      have := List.getElem?_eq_none_iff.1 e
      exact List.getElem?_eq_none_iff.2 (by rw [← f4.length]; exact this)
    | some y =>
      obtain ⟨z, hz, hv⟩ := f4.some e
      rw [hz]
      rw [List.getElem?_map] at e
      cases e2 : ns[i]? with
      | none => rw [e2] at e; cases e
      | some q => rw [e2] at e; cases e; rw [hv.intE]
  obtain ⟨pa, pn, pc⟩ := p
  have hsl : ∃ a c, ρ x = .slice a pn c := by
    rw [asSl_eq e] at hX
    generalize ρ x = Z at hX
    cases hX <;> exact ⟨_, _, rfl⟩
  obtain ⟨a, c, hx⟩ := hsl
  have f1' := f1 w
  rw [hx] at f1'
  have hnp : n = pn := by
    have : (Result.ok pn w : Result Nat) = .ok n w := f1'
    cases this; rfl
  subst hnp
  have f2' := f2 w.drawn
  rw [hx] at f2' ⊢
  have hconv : (convert S D (.slice a n c)).run P w = (Conv.bytesToString (.slice a n c)).run P w := by
    cases a <;> simp [convert, run_underlying hS, run_underlying hD, run_underlying hE, Result.andThen]
  rw [hconv]
  cases a with
  | none =>
    have : news = [] := by
      have h0 : (Result.ok #[] w : Result (Array Value)) = .ok news.toArray w := f2'
      have h0 : (#[] : Array Value) = news.toArray := by cases h0; rfl
      have := congrArg Array.toList h0
      simpa using this.symm
    rw [this] at hnews
    have : ns = [] := by
      cases ns with
      | nil => rfl
      | cons _ _ => cases hnews
    subst this
    simp [Conv.bytesToString, strOf]
    rfl
  | some ad =>
    have h0 : (loadCells ad (n * 1)).run P w = .ok news.toArray w := f2'
    rw [Nat.mul_one] at h0
    rw [run_bytesToString w ad n c ns (by rw [h0, hnews]), foldl_push]
    rfl
end
end Go.Ev
namespace Go.Ev
open Go (Sem)
section
variable {P : Program} {ι : Inj} {w : World} {base : Nat} {s : St} {o : Oper} {ρ : Operand → Value}
theorem d_rangeS (r : Rel ι base s w) {T : TypeId} {x : Operand} (ho : o.op = .range T x) (hT : P.underlying T = some .string) {b : List UInt8} (hx : VR ι (strOf b) (ρ x)) {id : Nat} (h1 : id < s.next) (h2 : s.get id = none) (h3 : ι id = none) :
    Does P (· = id) ι base s w (execOp ρ o) (ptr id 0) (s.set id (.iter ⟨⟨b⟩⟩ 0)) := by
  refine Does.of (κ := ι.put id ⟨w.heap.size, 0, 0, 0⟩) (v' := .pointer (some ⟨w.heap.size, 0, none⟩)) (w' := { w with heap := w.heap.push (.stringIter ⟨⟨b⟩⟩ 0) }) ?_ ?_ ?_
  rotate_left 1
  · exact Ext.new r id _ (.stringIter ⟨⟨b⟩⟩ 0) 0 0 h1 h2 h3 rfl rfl rfl rfl rfl ⟨rfl, heap_push_get w _⟩
  · exact .ptr (a' := ⟨w.heap.size, 0, none⟩) ⟨_, Inj.put_same _ _ _, rfl, rfl⟩
  · simp only [execOp, ho]
    refine run_v ?_
    rw [hx.strE]
    simp [Instr.range, strOf, newObj, Sem.run, run_underlying hT, Result.andThen]
theorem obIter_eq {x : Ob} {m : ByteArray × Nat} (h : obIter x = some m) : x = .iter m.1 m.2 := by
  cases x <;> simp only [obIter] at h <;> cases h <;> rfl
theorem d_nextS (r : Rel ι base s w) {x : Operand} (ho : o.op = .next x true) {fr : Fr} (hx : VR ι ((rArg x).ev fr) (ρ x)) {v : Value} {s' : St} {id : Nat} (h : cNextS (rArg x) fr s id = some (v, s')) (S : Nat → Prop) : Does P S ι base s w (execOp ρ o) v s' := by
  obtain ⟨a, h1, h2⟩ := ob_eq.1 h
  obtain ⟨h3, h4⟩ := must_eq.1 h2
  obtain ⟨ob_, h5, h6⟩ := ob_eq.1 h4
  obtain ⟨m, h7, h8⟩ := ob_eq.1 h6
  clear h h2 h4 h6
  rw [Nat.beq_eq] at h3
  rw [asAddr_eq h1] at hx
  obtain ⟨a', hx', B, hB, hs, rfl⟩ := hx.ptrE
  have hob := obIter_eq h7
  subst hob
  obtain ⟨B', hB', hsh, hw⟩ := r.ob a.block _ h5 rfl
  rw [hB] at hB'; cases hB'
  rw [hsh, h3] at hx'
  rw [cnd_eq] at h8
  have hlen : lenL m.1.data.toList = m.1.size := by rw [lenL_eq]; rfl
  have hget : ∀ (w0 : World), w0 = w → (getObj B.b).run P w0 = .ok (.stringIter m.1 m.2) w0 := by
    rintro _ rfl
    simp [getObj, Sem.run, hw]
  split at h8
  · rename_i hlt
    cases h8
    have hlt' : m.2 < m.1.size := by rw [hlen, Nat.blt_eq] at hlt; exact hlt
    refine Does.of (v' := .tuple #[.bool true, goInt m.2, .int .i32 (Utf8.decode m.1 m.2).1]) (w' := { w with heap := w.heap.setIfInBounds B.b (.stringIter m.1 (m.2 + (Utf8.decode m.1 m.2).2)) }) ?_ ?_ ?_ (κ := ι)
    · simp only [execOp, ho]
      refine run_v ?_
      rw [hx']
      simp only [Instr.next, Nat.zero_add, Sem.run_bind, hget w rfl, Result.andThen, hlt', if_true]
      simp [setObj, Sem.run, hw, Result.andThen]
    · obtain ⟨g1, g2⟩ := Go.MapKept.heap_set (o' := .stringIter m.1 (m.2 + (Utf8.decode m.1 m.2).2)) hw
      exact Ext.write r a.block _ _ B h5 rfl hB (by simp) (fun b hb => g2 b hb) rfl rfl rfl ⟨hsh, g1⟩
    · exact .tupI (.cons (.bool _) (.cons (.int _ _) (.cons (.int _ _) .nil)))
  · rename_i hlt
    cases h8
    have hlt' : ¬ m.2 < m.1.size := by rw [hlen, Nat.blt_eq] at hlt; exact hlt
    refine Does.of (v' := .tuple #[.bool false]) (w' := w) ?_ (Ext.refl r) (.tupI (.cons (.bool _) .nil))
    simp only [execOp, ho]
    refine run_v ?_
    rw [hx']
    simp [Instr.next, Sem.run_bind, hget w rfl, Result.andThen, hlt']
end
end Go.Ev

namespace Go.Ev
open Go (Sem)
section
variable {P : Program} {ι : Inj} {w : World} {base : Nat} {s : St} {o : Oper} {ρ : Operand → Value}
theorem shape_of {w : World} {b : Nat} {cs : Array Value} {T : TypeId} {fr : Nat × Nat} (h : w.heap[b]? = some (.cells cs T fr)) : w.shape? b = some (T, cs.size) := by
  unfold World.shape?
  rw [h]
theorem run_viewAt {w : World} {b : Nat} {x : TypeId × Nat} (h : w.shape? b = some x) : (viewAt b).run P w = .ok none w := by
  simp [viewAt, h]
theorem run_seenAt {w : World} {a : Addr} {x : TypeId × Nat} (h : w.shape? a.block = some x) : (Conv.seenAt a).run P w = .ok a w := by
  simp [Conv.seenAt, run_viewAt h, Result.andThen]
theorem q_toUnsafe (r : Rel ι base s w) {S D T : TypeId} {x : Operand} (ho : o.op = .convert S D x) (hS : P.underlying S = some (.pointer T)) (hD : P.underlying D = some .unsafePointer) {n : Nat} (hn : sizeOf? P T = some (n + 1)) {X : Value} (hx : VR ι X (ρ x))
    {p : Option Addr} (hp : asPtr X = some p) (hc : ∀ a, p = some a → ∃ v, s.cell a = some v) : Ok P ι w (execOp ρ o) X := by
  refine ⟨ρ x, ?_, hx⟩
  simp only [execOp, ho]
  refine run_v ?_
  rw [asPtr_eq hp] at hx
  cases p with
  | none =>
    rw [hx.ptrNE]
    simp [convert, Conv.unsafePointer, run_underlying hS, run_underlying hD, Result.andThen]
  | some a =>
    obtain ⟨v, hv⟩ := hc a rfl
    obtain ⟨a', e, ha⟩ := hx.ptrE
    rw [e]
    obtain ⟨c, h1, h2⟩ := ob_eq.1 hv
    obtain ⟨B, hB, hs, rfl⟩ := ha
    obtain ⟨cs', T', fr, g1, ⟨g2, g3, g4, g5⟩, g6⟩ := r.cells (asCells_eq h1) hB
    rw [nthL_eq] at h2
    have hlt := (List.getElem?_eq_some_iff.1 h2).1
    have hsh := shape_of g1
    have hno : ¬ (cs'.size ≤ B.sh + a.off) := by omega
    simp [convert, Conv.unsafePointer, run_underlying hS, run_underlying hD, Result.andThen, run_seenAt (P := P) (a := ⟨B.b, B.sh + a.off, none⟩) hsh, cellsIn, hsh, run_sizeOf hn, hno]
theorem q_ofUnsafe (r : Rel ι base s w) {S D T : TypeId} {x : Operand} (ho : o.op = .convert S D x) (hS : P.underlying S = some .unsafePointer) (hD : P.underlying D = some (.pointer T)) {n : Nat} (hn : sizeOf? P T = some (n + 1)) (hl : liesAt P P.depth T ((n + 1) / P.cellsOf T) 0 T 1 = true)
    {X : Value} (hx : VR ι X (ρ x)) {p : Option Addr} (hp : asPtr X = some p) (hc : ∀ a, p = some a → a.off = 0 ∧ ∃ cs es, s.get a.block = some (.cells cs es .ex) ∧ ety es = T + 1 ∧ cs.length = n + 1) : Ok P ι w (execOp ρ o) X := by
  refine ⟨ρ x, ?_, hx⟩
  simp only [execOp, ho]
  refine run_v ?_
  rw [asPtr_eq hp] at hx
  cases p with
  | none =>
    rw [hx.ptrNE]
    simp [convert, Conv.unsafePointer, run_underlying hS, run_underlying hD, Result.andThen]
  | some a =>
    obtain ⟨h0, cs, es, h1, h2, h3⟩ := hc a rfl
    obtain ⟨a', e, ha⟩ := hx.ptrE
    rw [e]
    obtain ⟨B, hB, hs, rfl⟩ := ha
    obtain ⟨cs', T', fr, g1, ⟨g2, g3, g4, g5⟩, g6⟩ := r.cells h1 hB
    obtain ⟨q1, q2, q3⟩ := g5
    have hT : T' = T := by
      rcases g6.2 with h | ⟨h, _⟩
      · rw [h2] at h; cases h
      · exact Nat.succ.inj (h.symm.trans h2)
    subst hT
    have hsh := shape_of g1
    have hsz : cs'.size = n + 1 := by omega
    rw [hsz] at hsh
    have hoff : B.sh + a.off = 0 := by omega
    rw [hoff]
    simp [convert, Conv.unsafePointer, run_underlying hS, run_underlying hD, Result.andThen, run_seenAt (P := P) (a := ⟨B.b, 0, none⟩) hsh, run_sizeOf hn, variablesAt, hsh, hl]
theorem q_sliceData {x : Operand} {c : Call} (ho : o.op = .call c) (hc : c.callee = .builtin .unsafeSliceData) (ha : c.args = #[x]) {X : Value} (hx : VR ι X (ρ x)) {a : Option Addr} {n k : Nat} (hX : asSl X = some (a, n, k))
    (hk : a.isSome = true → if k = open_ then n ≠ 0 else k ≠ 0) : Ok P ι w (execOp ρ o) (.pointer a) := by
  rw [asSl_eq hX] at hx
  simp only at hx
  have key : ∃ b k', ρ x = .slice b n k' ∧ (b = none ∨ k' ≠ 0) ∧ VR ι (.pointer a) (.pointer b) := by
    generalize ρ x = Z at hx
    cases hx with
    | slN => exact ⟨_, _, rfl, .inl rfl, .ptrN⟩
    | sl h1 h2 h3 =>
      have := hk rfl
      rw [if_neg (by omega)] at this
      exact ⟨_, _, rfl, .inr this, .ptr h1⟩
    | slO h1 h2 h3 h4 h5 =>
      have := hk rfl
      rw [if_pos rfl] at this
      exact ⟨_, _, rfl, .inr (by omega), .ptr ⟨_, h1, h2, h3⟩⟩
    | slV h1 h2 h3 =>
      have := hk rfl
      rw [if_pos rfl] at this
      exact absurd rfl this
  obtain ⟨b, k', e, h1, h2⟩ := key
  refine ⟨.pointer b, run_call_len ho hc (m := Builtin.unsafeSliceData_ c.argTypes o.type (c.args.map ρ)) (fun _ => rfl) ?_, h2⟩
  rw [ha]
  simp only [List.map_toArray, List.map_cons, List.map_nil, e]
  cases b with
  | none => exact Lib.run_unsafeSliceData_nil _ _ _ _ _
  | some b => exact Lib.run_unsafeSliceData_row _ _ _ _ _ _ (h1.resolve_left (by simp))
theorem run_loadBytes (w : World) : ∀ (l : List Int) (a : Addr) (acc : ByteArray), (∀ (j : Nat) (x : Int), l[j]? = some x → w.cell? (a.add j) = some (.int .u8 x)) →
    (loadBytes a acc l.length).run P w = .ok ⟨acc.data ++ (l.map fun n => UInt8.ofNat n.toNat).toArray⟩ w
  | [], a, acc, _ => by simp [loadBytes]
  | x :: l, a, acc, h => by
    have h0 : w.cell? a = some (.int .u8 x) := by
      have := h 0 x rfl
      simpa [Addr.add] using this
    have ih := run_loadBytes w l (a.add 1) (acc.push (UInt8.ofNat x.toNat)) (fun j y hy => by
      have := h (j + 1) y (by simpa using hy)
      have e : (a.add 1).add j = a.add (j + 1) := by
        unfold Addr.add
        by_cases hj : j = 0
        · subst hj; simp
        · simp [hj]; omega
      rw [e]; exact this)
    have hx : (x.toNat).toUInt8 = UInt8.ofNat x.toNat := rfl
    simp only [List.length_cons, loadBytes, Sem.run_bind, run_load, h0, Result.andThen, hx]
    rw [ih]
    congr 1
    apply ByteArray.ext
    simp [ByteArray.push]
theorem liesAt_bytes {e : TypeId} (hc : P.cellsOf e = 1) (count off n : Nat) (hn : off + n ≤ count) : liesAt P P.depth e count off e n = true := by
  have hd : P.depth = (2 * (P.types.size + Made.depth) + 1) + 1 := rfl
  rw [hd]
  simp only [liesAt, Bool.or_eq_true]
  left
  rw [hd]
  simp [rowAt, hc, hn, sameLayout, Nat.mod_one]
theorem run_unsafeString (w : World) (pt it ty e : TypeId) (hp : P.underlying pt = some (.pointer e)) (hc : P.cellsOf e = 1) (a : Addr) (cells : Nat) (hsh : w.shape? a.block = some (e, cells)) (l : List Int) (h0 : l.length ≠ 0) (hn : a.off + l.length ≤ cells) (h63 : l.length ≤ 9223372036854775807)
    (hcell : ∀ (j : Nat) (x : Int), l[j]? = some x → w.cell? (a.add j) = some (.int .u8 x)) (k : IntKind) :
    (Builtin.unsafeString_ #[pt, it] ty #[.pointer (some a), .int k l.length]).run P w = .ok (.string ⟨(l.map fun n => UInt8.ofNat n.toNat).toArray⟩) (w.freeze a l.length) := by
  have hlb := run_loadBytes (P := P) w l a .empty hcell
  have hlies := liesAt_bytes (P := P) hc (cells / P.cellsOf e) a.off l.length (by rw [hc]; simpa using hn)
  have h63' : ¬ (9223372036854775807 : Int) < (l.length : Int) := by omega
  obtain ⟨E1, E2, E3, hdef⟩ : ∃ (E1 : RuntimeError) (E2 E3 : Unsupported), Builtin.unsafeString_ #[pt, it] ty #[.pointer (some a), .int k l.length] =
      (do
        let n ← Go.asInt (.int k l.length)
        if n < 0 then runtimePanic E1
        if n > IntKind.i64.max then unsupported E2
        if n = 0 then pure (.string .empty)
        else if ← variablesAt a (← elemOf pt) n.toNat then do
          let s ← loadBytes a .empty n.toNat
          freeze a n.toNat
          pure (.string s)
        else unsupported E3) := ⟨_, _, _, rfl⟩
  rw [hdef]
  have hmax : IntKind.i64.max = 9223372036854775807 := rfl
  have hneg : ¬ (l.length : Int) < 0 := by omega
  simp [Go.asInt, asIntOf, hmax, h63', hneg, h0, variablesAt, hsh, elemOf, run_underlying hp, hlies, hlb]
theorem run_unsafeString_none (w : World) (pt it ty : TypeId) (p : Option Addr) (k : IntKind) : (Builtin.unsafeString_ #[pt, it] ty #[.pointer p, .int k 0]).run P w = .ok (.string .empty) w := by
  have hmax : IntKind.i64.max = 9223372036854775807 := rfl
  cases p with
  | none =>
    obtain ⟨E1, E3, E2, hdef⟩ : ∃ (E1 E3 : RuntimeError) (E2 : Unsupported), Builtin.unsafeString_ #[pt, it] ty #[.pointer none, .int k 0] =
        (do
          let n ← Go.asInt (.int k 0)
          if n < 0 then runtimePanic E1
          if n > IntKind.i64.max then unsupported E2
          if n = 0 then pure (.string .empty)
          else runtimePanic E3) := ⟨_, _, _, rfl⟩
    rw [hdef]
    simp [Go.asInt, asIntOf, hmax]
  | some a =>
    obtain ⟨E1, E2, E3, hdef⟩ : ∃ (E1 : RuntimeError) (E2 E3 : Unsupported), Builtin.unsafeString_ #[pt, it] ty #[.pointer (some a), .int k 0] =
        (do
          let n ← Go.asInt (.int k 0)
          if n < 0 then runtimePanic E1
          if n > IntKind.i64.max then unsupported E2
          if n = 0 then pure (.string .empty)
          else if ← variablesAt a (← elemOf pt) n.toNat then do
            let s ← loadBytes a .empty n.toNat
            freeze a n.toNat
            pure (.string s)
          else unsupported E3) := ⟨_, _, _, rfl⟩
    rw [hdef]
    simp [Go.asInt, asIntOf, hmax]
theorem freeze_at {w : World} {b off n : Nat} {cs : Array Value} {T : TypeId} {fr : Nat × Nat} (h : w.heap[b]? = some (.cells cs T fr)) (hn : n ≠ 0) :
    (w.freeze ⟨b, off, none⟩ n).heap[b]? = some (.cells cs T (if fr.1 == fr.2 then (off, off + n) else (min fr.1 off, max fr.2 (off + n)))) ∧ (w.freeze ⟨b, off, none⟩ n).heap.size = w.heap.size ∧ ∀ b', b' ≠ b → (w.freeze ⟨b, off, none⟩ n).heap[b']? = w.heap[b']? := by
  unfold World.freeze
  rw [if_neg hn]
  refine ⟨?_, by simp, fun b' hb => ?_⟩
  · simp only [Array.getElem?_modify, if_true, h, Option.map_some]
  · simp only [Array.getElem?_modify]
    rw [if_neg (fun e => hb e.symm)]
theorem d_unsafeStr (r : Rel ι base s w) {x y : Operand} {c : Call} (ho : o.op = .call c) (hc : c.callee = .builtin .unsafeString) (ha : c.args.toList = [x, y]) {t it T : TypeId} (ht : c.argTypes.toList = [t, it]) (hT : P.underlying t = some (.pointer T)) (hcell : P.cellsOf T = 1)
    {fr : Fr} (hx : VR ι ((rArg x).ev fr) (ρ x)) (hy : VR ι ((rArg y).ev fr) (ρ y)) {v : Value} {s' : St} {id : Nat} (h : cUnsafeStr T (rArg x) (rArg y) fr s id = some (v, s')) (S : Nat → Prop) : Does P S ι base s w (execOp ρ o) v s' := by
  obtain ⟨p, h1, H1⟩ := ob_eq.1 h
  obtain ⟨n, h2, H2⟩ := ob_eq.1 H1
  rw [asPtr_eq h1] at hx
  obtain ⟨k, hk⟩ := asNat_eq h2
  rw [hk] at hy
  have hy' := hy.intE
  have hrun : ∀ (v' : Value) (w' : World), (Builtin.unsafeString_ #[t, it] o.type #[ρ x, ρ y]).run P w = .ok v' w' → (execOp ρ o).run P w = .ok (.value v') w' := by
    intro v' w' hr
    refine run_call_len ho hc (m := Builtin.unsafeString_ c.argTypes o.type (c.args.map ρ)) (fun _ => rfl) ?_
    rw [show c.argTypes = #[t, it] from by apply Array.ext'; simpa using ht, show c.args = #[x, y] from by apply Array.ext'; simpa using ha]
    simpa using hr
  rw [cnd_eq] at H2
  split at H2
  · rename_i h0
    rw [Nat.beq_eq] at h0
    subst h0
    cases H2
    have : ∃ q, ρ x = .pointer q := by
      generalize ρ x = Z at hx
      cases hx <;> exact ⟨_, rfl⟩
    obtain ⟨q, hq⟩ := this
    refine Does.of (hrun _ w ?_) (Ext.refl r) (v' := .string .empty) ?_
    · rw [hq, hy']; exact run_unsafeString_none w t it o.type q k
    · exact .string _
  · rename_i h0
    rw [Nat.beq_eq] at h0
    obtain ⟨h3, H3⟩ := must_eq.1 H2
    obtain ⟨a, rfl, H4⟩ := ob_eq.1 H3
    obtain ⟨cc, h4, H5⟩ := ob_eq.1 H4
    obtain ⟨h5, H6⟩ := must_eq.1 H5
    obtain ⟨h6, H7⟩ := must_eq.1 H6
    obtain ⟨h7, H8⟩ := must_eq.1 H7
    obtain ⟨l, h8, H9⟩ := om_eq.1 H8
    cases H9
    clear h H1 H2 H3 H4 H5 H6 H7 H8
    rw [Nat.ble_eq] at h3 h7
    rw [Nat.beq_eq] at h5
    rw [lenL_eq] at h7
    rw [takeL_eq, dropL_eq] at h8
    obtain ⟨cs, es, md⟩ := cc
    simp only at h4 h5 h6 h7 h8
    have hg := asCells_eq h4
    simp only at hg
    obtain ⟨a', e, B, hB, hs, rfl⟩ := hx.ptrE
    obtain ⟨cs', T', frz, g1, ⟨g2, g3, g4, g5⟩, g6⟩ := r.cells hg hB
    obtain ⟨hty1, hty2⟩ := g6
    have hT2 : T' = T ∧ (md = .gr → frz.2 ≤ B.sh) ∧ (md = .fz → frz.2 ≤ B.sh + cs.length) := by
      rcases hty2 with h | ⟨h, h'⟩
      · rw [h5] at h; cases h
      · exact ⟨by rw [h5] at h; exact (Nat.succ.inj h).symm, h'⟩
    obtain ⟨rfl, hz1, hz2⟩ := hT2
    obtain ⟨ns, e1, e2⟩ := toByte_eq h8
    have hlen : ns.length = n := by
      have := congrArg List.length e1
      simp only [List.length_take, List.length_drop, List.length_map] at this
      omega
    have hcells : ∀ (j : Nat) (q : Int), ns[j]? = some q → w.cell? ((⟨B.b, B.sh + a.off, none⟩ : Addr).add j) = some (.int .u8 q) := by
      intro j q hq
      have hj : j < n := by have := (List.getElem?_eq_some_iff.1 hq).1; omega
      have : cs[a.off + j]? = some (.int .u8 q) := by
        have e3 := congrArg (fun l => l[j]?) e1
        simp only [List.getElem?_take, if_pos hj, List.getElem?_drop, List.getElem?_map, hq, Option.map_some] at e3
        exact e3
      obtain ⟨_, y2, f2, f3⟩ := g4 _ _ this
      have hadd : (⟨B.b, B.sh + a.off, none⟩ : Addr).add j = ⟨B.b, B.sh + a.off + j, none⟩ := by
        unfold Addr.add
        split
        · subst_vars; simp
        · rfl
      rw [hadd, cell?_of g1, Nat.add_assoc, f2, f3.intE]
    have hro : room = 140737488355328 := rfl
    have hr := run_unsafeString (P := P) w t it o.type T' hT hcell ⟨B.b, B.sh + a.off, none⟩ cs'.size (shape_of g1) ns (by omega) (by simp only; omega) (by omega) hcells k
    obtain ⟨z1, z2, z3⟩ := freeze_at (off := B.sh + a.off) (n := ns.length) g1 (by omega)
    have hown : owned (Ob.cells cs es md) = true := by cases md <;> first | (cases h6; done) | rfl
    have hend : (if frz.1 == frz.2 then (B.sh + a.off, B.sh + a.off + ns.length) else (min frz.1 (B.sh + a.off), max frz.2 (B.sh + a.off + ns.length))).2 ≤ B.sh + cs.length := by
      have : frz.2 ≤ B.sh + cs.length := by
        cases md with
        | gr => have := hz1 rfl; omega
        | fz => exact hz2 rfl
        | _ => cases h6
      split
      · simp only; omega
      · simp only; omega
    refine Does.of (hrun _ _ ?_) (Ext.write r a.block _ (.cells cs es .fz) B hg hown hB z2 z3 ?_ ?_ ?_ ?_) (v' := .string ⟨(ns.map fun n => UInt8.ofNat n.toNat).toArray⟩) ?_
    · rw [e, hy', ← hlen]; exact hr
    · unfold World.freeze; split <;> rfl
    · unfold World.freeze; split <;> rfl
    · unfold World.freeze; split <;> rfl
    · exact ⟨cs', T', _, z1, ⟨g2, g3, g4, freeFrom_of hend⟩, ⟨fun _ => hty1 h6, .inr ⟨h5, fun h => by (cases h), fun _ => hend⟩⟩⟩
    · rw [e2]; exact .string _
theorem d_convSS (r : Rel ι base s w) {S E : TypeId} {x : Operand} (ho : o.op = .convert S S x) (hS : P.underlying S = some (.slice E)) (hE : P.underlying E = some (.int .u8)) {fr : Fr} (hx : VR ι ((rArg x).ev fr) (ρ x)) {v : Value} {s' : St} {id : Nat}
    (h : cConvSS (rArg x) fr s id = some (v, s')) (T : Nat → Prop) : Does P T ι base s w (execOp ρ o) v s' := by
  obtain ⟨p, h1, H1⟩ := ob_eq.1 h
  obtain ⟨a, h2, H2⟩ := ob_eq.1 H1
  obtain ⟨c, h3, H3⟩ := ob_eq.1 H2
  obtain ⟨h4, H4⟩ := must_eq.1 H3
  obtain ⟨h5, H5⟩ := must_eq.1 H4
  cases H5
  obtain ⟨cs, es, h6⟩ := isEx_eq h5
  have h7 := asCells_eq h3
  rw [h6] at h7
  simp only [Option.some.injEq, Ob.cells.injEq] at h7
  obtain ⟨e1, e2, _⟩ := h7
  obtain ⟨pa, pn, pc⟩ := p
  simp only at h2 h4
  subst h2
  have hx0 := asSl_eq h1
  have hcap : pc ≠ open_ := by
    rintro rfl
    simp at h4
  rw [hx0] at hx ⊢
  simp only at hx ⊢
  generalize hX : ρ x = X at hx
  cases hx with
  | sl ha hc hn =>
    rename_i a'
    have ha0 := ha
    obtain ⟨B, hB, hsp, rfl⟩ := ha
    obtain ⟨cs', T', frz, g1, ⟨g2, g3, g4, g5⟩, g6⟩ := r.cells h6 hB
    obtain ⟨m1, m2, m3⟩ := g5
    subst m3
    obtain ⟨z1, z2, z3⟩ := freeze_at (off := cs'.size) (n := 1) g1 (by decide)
    refine Does.of (κ := ι) (v' := .slice (some ⟨B.b, B.sh + a.off, none⟩) pn pc) (w' := w.freeze ⟨B.b, cs'.size, none⟩ 1) ?_ (Ext.write r a.block _ (.cells c.1 c.2.1 .sx) B h6 rfl hB z2 z3 ?_ ?_ ?_ ?_) (.sl ha0 hc hn)
    · simp only [execOp, ho]
      refine run_v ?_
      rw [hX]
      simp [convert, run_underlying hS, run_underlying hE, markStringish, shape, freeze, Sem.run, shape_of g1, Result.andThen]
    · unfold World.freeze; split <;> rfl
    · unfold World.freeze; split <;> rfl
    · unfold World.freeze; split <;> rfl
    · rw [← e1, ← e2]
      refine ⟨cs', T', _, z1, ⟨g2, g3, g4, m1, m2, ?_⟩, fun h => (by cases h), ?_⟩
      · intro o' ho1 ho2 hc'
        simp only [beq_self_eq_true, if_true] at hc'
        omega
      · rcases g6.2 with h | ⟨h, _⟩
        · exact .inl h
        · exact .inr ⟨h, fun h => (by cases h), fun h => (by cases h)⟩
  | slO h1' hs ha hc hn => exact absurd rfl hcap
  | slV h1' hs ha => exact absurd rfl hcap
theorem d_clearV (r : Rel ι base s w) {cl : Call} (ho : o.op = .call cl) (hcl : cl.callee = .builtin .clear) {T e : TypeId} {m : Operand} (ht : cl.argTypes[0]? = some T) (ha : cl.args.toList = [m]) (hT : P.underlying T = some (.slice e)) {z : Value} (hz : zeroOf P e = some z) (hzp : 0 < z.cells.size) {fr : Fr}
    (hM : VR ι ((rArg m).ev fr) (ρ m)) {v : Value} {s' : St} {id : Nat} (h : cClearV z.cells.toList (rArg m) fr s id = some (v, s')) (S : Nat → Prop) :
    Does P S ι base s w (execOp ρ o) v s' := by
  obtain ⟨p, h1, h8⟩ := ob_eq.1 h
  have hrun : ∀ w' m', (Builtin.clear_ cl.argTypes o.type #[ρ m]).run P w = .ok m' w' → (execOp ρ o).run P w = .ok (.value m') w' := by
    intro w' m' g
    refine run_call_len ho hcl (m := Builtin.clear_ cl.argTypes o.type (cl.args.map ρ)) (fun _ => rfl) ?_
    rw [show cl.args = #[m] from by apply Array.ext'; simpa using ha]
    simpa using g
  obtain ⟨hz1, hz2⟩ := run_zeroValue (w := w) hz
  obtain ⟨pa, pn, pc⟩ := p
  rw [asSl_eq h1] at hM
  cases pa with
  | none =>
    cases h8
    simp only at hM
    generalize hX : ρ m = X at hM hrun
    cases hM with
    | slN =>
      refine Does.of (hrun w undef ?_) (Ext.refl r) .undef
      simp [Builtin.clear_, ht, Go.run_underlying hT, Result.andThen]
      rfl
  | some a =>
    obtain ⟨s1, h3, h9⟩ := om_eq.1 (show om (s.put a (zeros pn z.cells.toList)) (fun s => (undef, s)) = some (v, s') from h8)
    cases h9
    simp only at hM
    have hzl : LR ι (zeros pn z.cells.toList) (zeros pn z.cells.toList) ∧ ∀ y ∈ zeros pn z.cells.toList, scal y := by
      have hp : ∀ y ∈ zeros pn z.cells.toList, plainC y = true := by
        intro y hy
        rw [zeros_eq] at hy
        obtain ⟨l, hl, hy⟩ := List.mem_flatten.1 hy
        rw [List.mem_replicate] at hl
        rw [hl.2] at hy
        exact List.all_eq_true.1 hz2 y hy
      exact ⟨.plain (List.all_eq_true.2 hp), fun y hy => plainC_scal (hp y hy)⟩
    have fin : ∀ a' n' c', AR ι a a' → ρ m = .slice (some a') n' c' → n' = pn → Does P S ι base s w (execOp ρ o) undef s' := by
      rintro a' n' c' har hX rfl
      obtain ⟨w', k1, k2⟩ := put_ok (P := P) r har hzl.1 hzl.2 h3 S
      refine Does.of (hrun w' undef ?_) k2 .undef
      rw [hX]
      cases n' with
      | zero =>
        have hw : w' = w := by
          have k1 : (storeCells a' []).run P w = .ok () w' := k1
          have : (storeCells a' []).run P w = .ok () w := rfl
          rw [this] at k1; cases k1; rfl
        subst hw
        simp [Builtin.clear_, ht, Go.run_underlying hT, Result.andThen]
        rfl
      | succ n =>
        have hl := zeroCells_list (z := z.cells) (k := n + 1) hzp
        rw [zeros_eq, ← hl] at k1
        simp [Builtin.clear_, ht, Go.run_underlying hT, Result.andThen, hz1, k1]
        rfl
    generalize hX : ρ m = X at hM
    cases hM with
    | sl har hc hn => exact fin _ _ _ har hX rfl
    | slO hb hs hae hc hn => exact fin _ _ _ ⟨_, hb, hs, hae⟩ hX rfl
    | slV hb hs hae =>
      have hw : s' = s.set a.block ((s.get a.block).getD .dead) ∨ True := .inr trivial
      rename_i a' B
      obtain ⟨w', k1, k2⟩ := put_ok (P := P) r (a' := ⟨B.b, B.sh + a.off, none⟩) ⟨B, hb, hs, rfl⟩ hzl.1 hzl.2 h3 S
      have hw : w' = w := by
        have k1 : (storeCells (⟨B.b, B.sh + a.off, none⟩ : Addr) []).run P w = .ok () w' := k1
        have : (storeCells (⟨B.b, B.sh + a.off, none⟩ : Addr) []).run P w = .ok () w := rfl
        rw [this] at k1; cases k1; rfl
      subst hw
      refine Does.of (hrun w' undef ?_) k2 .undef
      rw [hX]
      simp [Builtin.clear_, ht, Go.run_underlying hT, Result.andThen]
      rfl
end
end Go.Ev

namespace Go.Ev
open Go (Sem)
section
variable {P : Program} {ι : Inj} {w : World} {base : Nat} {s : St} {o : Oper} {a : Act} {fr : Fr} {id : Nat} {v : Value} {s' : St} {c : Cop}
def isQ (c : Cop) : Bool := match c.cl with | .p | .l => true | _ => false
structure Says (P : Program) (ι : Inj) (base : Nat) (s : St) (w : World) (o : Oper) (a : Act) (id : Nat) (c : Cop) (v : Value) (s' : St) : Prop where
  q : isQ c = true → s' = s ∧ Ok P ι w (execOp a.eval o) v
  n : c.cl = .n → id < s.next → s.get id = none → ι id = none → Does P (· = id) ι base s w (execOp a.eval o) v s'
  w_ : c.cl = .w → ∀ S, Does P S ι base s w (execOp a.eval o) v s'
theorem Says.mkQ (hc : isQ c = true) (h1 : s' = s) (h2 : Ok P ι w (execOp a.eval o) v) : Says P ι base s w o a id c v s' :=
  ⟨fun _ => ⟨h1, h2⟩, fun h => (by unfold isQ at hc; rw [h] at hc; cases hc), fun h => (by unfold isQ at hc; rw [h] at hc; cases hc)⟩
theorem Says.mkN (hc : c.cl = .n) (h2 : id < s.next → s.get id = none → ι id = none → Does P (· = id) ι base s w (execOp a.eval o) v s') : Says P ι base s w o a id c v s' :=
  ⟨fun h => (by unfold isQ at h; rw [hc] at h; cases h), fun _ => h2, fun h => (by rw [hc] at h; cases h)⟩
theorem Says.mkW (hc : c.cl = .w) (h2 : ∀ S, Does P S ι base s w (execOp a.eval o) v s') : Says P ι base s w o a id c v s' :=
  ⟨fun h => (by unfold isQ at h; rw [hc] at h; cases h), fun h => (by rw [hc] at h; cases h), fun _ => h2⟩
abbrev Ops (ι : Inj) (o : Oper) (a : Act) (fr : Fr) : Prop := ∀ x ∈ o.op.operands.toList, VR ι ((rArg x).ev fr) (a.eval x)
abbrev Runs (c : Cop) (fr : Fr) (s : St) (id : Nat) (v : Value) (s' : St) : Prop := (cop c).run fr s id = some (v, s')
theorem back_eq {x : Option Value} (h : back s x = some (v, s')) : s' = s ∧ x = some v := by
  obtain ⟨y, rfl, h⟩ := om_eq.1 h
  cases h; exact ⟨rfl, rfl⟩
theorem s_move {x : Operand} (ho : o.op = .move x ∨ o.op = .assign x) (hr : rOp P o.op = some c) (hv : Ops ι o a fr) (r : Rel ι base s w) (h : Runs c fr s id v s') : Says P ι base s w o a id c v s' := by
  have hx : VR ι ((rArg x).ev fr) (a.eval x) := by rcases ho with ho | ho <;> exact hv x (by rw [ho]; simp [Op.operands])
  rcases ho with ho | ho <;> (rw [ho] at hr; cases hr; cases h)
  · exact .mkQ rfl rfl (q_mov (.inl ho) hx)
  · exact .mkQ rfl rfl (q_mov (.inr ho) hx)
theorem s_pick {x y z : Operand} (ho : o.op = .pick x y z) (hr : rOp P o.op = some c) (hv : Ops ι o a fr) (r : Rel ι base s w) (h : Runs c fr s id v s') : Says P ι base s w o a id c v s' := by
  have h1 := hv x (by rw [ho]; simp [Op.operands])
  have h2 := hv y (by rw [ho]; simp [Op.operands])
  have h3 := hv z (by rw [ho]; simp [Op.operands])
  rw [ho] at hr; cases hr
  obtain ⟨t, ht, h⟩ := om_eq.1 h
  cases h
  rw [asBool_eq ht] at h1
  exact .mkQ rfl rfl (q_pick ho h1.boolE h2 h3)
theorem s_alloc {t : TypeId} (ho : o.op = .alloc t) (hr : rOp P o.op = some c) (hv : Ops ι o a fr) (r : Rel ι base s w) (h : Runs c fr s id v s') : Says P ι base s w o a id c v s' := by
  rw [ho] at hr
  obtain ⟨z, hz, rfl⟩ := Option.map_eq_some_iff.1 hr
  cases h
  exact .mkN rfl fun h1 h2 h3 => d_alloc r ho hz h1 h2 h3
theorem s_box {t : TypeId} {x : Operand} (ho : o.op = .box t x) (hr : rOp P o.op = some c) (hv : Ops ι o a fr) (r : Rel ι base s w) (h : Runs c fr s id v s') : Says P ι base s w o a id c v s' := by
  have h1 := hv x (by rw [ho]; simp [Op.operands])
  rw [ho] at hr; cases hr
  obtain ⟨hs, h⟩ := must_eq.1 h
  cases h
  exact .mkN rfl fun g1 g2 g3 => d_box r ho h1 hs g1 g2 g3
theorem PR.of {place : Nat → Option (Nat × Nat)} {f : Nat × Operand → Option (Nat × Nat × Arg)} (hf : ∀ p q, f p = some q → ∃ off n, place p.1 = some (off, n) ∧ q = (off, n, rArg p.2)) : ∀ {ps : List (Nat × Operand)} {qs : List (Nat × Nat × Arg)}, ps.mapM f = some qs → PR place ps qs := by
  intro ps
  induction ps with
  | nil => intro qs h; simp at h; subst h; exact .nil
  | cons p ps ih =>
    intro qs h
    rw [List.mapM_cons] at h
    cases e : f p with
    | none => simp [e] at h
    | some q =>
      simp only [e, Option.bind_eq_bind, Option.bind_some] at h
      cases e2 : ps.mapM f with
      | none => simp [e2] at h
      | some qs2 =>
        simp only [e2, Option.bind_some] at h
        cases h
        obtain ⟨off, n, h1, rfl⟩ := hf p q e
        exact .cons h1 (ih e2)
theorem PR.all {place : Nat → Option (Nat × Nat)} {g : Nat → Nat × Nat} (hg : ∀ i, place i = some (g i)) : ∀ {ps : List (Nat × Operand)}, PR place ps (ps.map fun p => ((g p.1).1, (g p.1).2, rArg p.2)) := by
  intro ps
  induction ps with
  | nil => exact .nil
  | cons p ps ih => exact .cons (hg p.1) ih
theorem s_build {t : TypeId} {ps : Array (Nat × Operand)} (ho : o.op = .build t ps) (hr : rOp P o.op = some c) (hv : Ops ι o a fr) (r : Rel ι base s w) (h : Runs c fr s id v s') : Says P ι base s w o a id c v s' := by
  have h1 : ∀ p ∈ ps.toList, VR ι ((rArg p.2).ev fr) (a.eval p.2) := fun p hp => hv p.2 (by rw [ho]; simp [Op.operands]; exact ⟨p.1, by simpa using hp⟩)
  rw [ho] at hr
  unfold rOp at hr
  simp only at hr
  split at hr
  · rename_i fs z hT hz
    split at hr
    · cases hr
    rename_i hall
    obtain ⟨qs, hqs, rfl⟩ := Option.map_eq_some_iff.1 hr
    obtain ⟨l, hl, h⟩ := om_eq.1 h
    cases h
    refine .mkQ rfl rfl (q_buildStruct ho hT hz ?_ (PR.of ?_ hqs) h1 hl)
    · intro f hf
      simp only [Bool.not_eq_true', Bool.not_eq_false] at hall
      exact Option.isSome_iff_exists.1 (List.all_eq_true.1 hall f hf)
    · intro p q hq
      cases e : fs[p.1]? with
      | none => simp [e] at hq
      | some f =>
        simp only [e, Option.bind_eq_bind, Option.bind_some] at hq
        cases e2 : sizeOf? P f.type with
        | none => simp [e2] at hq
        | some n =>
          simp only [e2, Option.bind_some, Option.some.injEq] at hq
          exact ⟨_, _, by simp [e2], hq.symm⟩
  · rename_i len e z hT hz
    obtain ⟨n, hn, rfl⟩ := Option.map_eq_some_iff.1 hr
    obtain ⟨l, hl, h⟩ := om_eq.1 h
    cases h
    exact .mkQ rfl rfl (q_buildArray ho hT hn hz (PR.all (g := fun i => (i * n, n)) fun i => rfl) h1 hl)
  · cases hr
theorem s_buildSlice {t : TypeId} {len : Nat} {ps : Array (Nat × Operand)} (ho : o.op = .buildSlice t len ps) (hr : rOp P o.op = some c) (hv : Ops ι o a fr) (r : Rel ι base s w) (h : Runs c fr s id v s') : Says P ι base s w o a id c v s' := by
  have h1 : ∀ p ∈ ps.toList, VR ι ((rArg p.2).ev fr) (a.eval p.2) := fun p hp => hv p.2 (by rw [ho]; simp [Op.operands]; exact ⟨p.1, by simpa using hp⟩)
  rw [ho] at hr
  unfold rOp at hr
  simp only at hr
  split at hr
  · rename_i e hT
    cases hn : sizeOf? P e with
    | none => simp [hn] at hr
    | some n =>
      cases hz : zeroOf P e with
      | none => simp [hn, hz] at hr
      | some z =>
        simp only [hn, hz, Option.bind_eq_bind, Option.bind_some] at hr
        split at hr
        · cases hr
        · rename_i hcond
          cases hr
          obtain ⟨l, hl, h⟩ := om_eq.1 h
          cases h
          simp only [Bool.or_eq_true, decide_eq_true_eq, beq_iff_eq, bne_iff_ne, ne_eq, not_or, Decidable.not_not] at hcond
          obtain ⟨⟨c1, c2⟩, c3⟩ := hcond
          exact .mkN rfl fun g1 g2 g3 => d_buildSlice r ho hT hn hz c3 (by omega) (by omega) (PR.all (g := fun i => (i * n, n)) fun i => rfl) h1 hl g1 g2 g3
  · cases hr
theorem s_load {t : TypeId} {x : Operand} (ho : o.op = .load t x) (hr : rOp P o.op = some c) (hv : Ops ι o a fr) (r : Rel ι base s w) (h : Runs c fr s id v s') : Says P ι base s w o a id c v s' := by
  have h1 := hv x (by rw [ho]; simp [Op.operands])
  rw [ho] at hr
  unfold rOp at hr
  simp only at hr
  split at hr
  · rename_i hT
    cases hr
    obtain ⟨ad, ha, h⟩ := ob_eq.1 h
    obtain ⟨rfl, h⟩ := back_eq h
    rw [asAddr_eq ha] at h1
    exact .mkQ rfl rfl (q_load1 r ho hT h1 h)
  · rename_i hT
    obtain ⟨n, hn, rfl⟩ := Option.map_eq_some_iff.1 hr
    obtain ⟨ad, ha, h⟩ := ob_eq.1 h
    obtain ⟨l, hl, h⟩ := om_eq.1 h
    cases h
    rw [asAddr_eq ha] at h1
    exact .mkQ rfl rfl (q_loadN r ho hT hn h1 hl)
  · cases hr
theorem s_store {t : TypeId} {x y : Operand} (ho : o.op = .store t x y) (hr : rOp P o.op = some c) (hv : Ops ι o a fr) (r : Rel ι base s w) (h : Runs c fr s id v s') : Says P ι base s w o a id c v s' := by
  have h1 := hv x (by rw [ho]; simp [Op.operands])
  have h2 := hv y (by rw [ho]; simp [Op.operands])
  rw [ho] at hr
  obtain ⟨n, hn, rfl⟩ := Option.map_eq_some_iff.1 hr
  obtain ⟨ad, ha, h⟩ := ob_eq.1 h
  obtain ⟨hs, h⟩ := must_eq.1 h
  obtain ⟨hl, h⟩ := must_eq.1 h
  obtain ⟨s2, hp, h⟩ := om_eq.1 h
  cases h
  rw [asAddr_eq ha] at h1
  rw [Nat.beq_eq, lenL_eq] at hl
  exact .mkW rfl fun S => d_store r ho hn h1 h2 hs hl hp
theorem s_nilCheck {x : Operand} (ho : o.op = .nilCheck x) (hr : rOp P o.op = some c) (hv : Ops ι o a fr) (r : Rel ι base s w) (h : Runs c fr s id v s') : Says P ι base s w o a id c v s' := by
  have h1 := hv x (by rw [ho]; simp [Op.operands])
  rw [ho] at hr; cases hr
  obtain ⟨hn, h⟩ := must_eq.1 h
  cases h
  exact .mkQ rfl rfl (q_nilCheck ho hn h1)
theorem rNil_eq {neg : Bool} {k : NK} {x y : Operand} (h : rNil neg k x y = some c) : (isNilX k x = true ∧ c = .eqNil neg k (rArg y)) ∨ (isNilX k y = true ∧ c = .eqNil neg k (rArg x)) := by
  unfold rNil at h
  split at h
  · cases h; exact .inl ⟨‹_›, rfl⟩
  · split at h
    · cases h; exact .inr ⟨‹_›, rfl⟩
    · cases h
theorem s_nil {op : BinOp} {t u : TypeId} {x y : Operand} (ho : o.op = .binOp op t x y u) (hop : op = .eql ∨ op = .neq) {k : NK} {d : TypeDesc} (hT : P.underlying t = some d) (hd : nkType k d) (hr : rNil (negOf op) k x y = some c)
    (h1 : VR ι ((rArg x).ev fr) (a.eval x)) (h2 : VR ι ((rArg y).ev fr) (a.eval y)) (h : Runs c fr s id v s') : Says P ι base s w o a id c v s' := by
  rcases rNil_eq hr with ⟨hn, rfl⟩ | ⟨hn, rfl⟩
  · obtain ⟨b, hb, h⟩ := om_eq.1 h
    cases h
    exact .mkQ rfl rfl (q_eqNilL ho hop hT hd (fun _ => rfl) hb hn h2)
  · obtain ⟨b, hb, h⟩ := om_eq.1 h
    cases h
    exact .mkQ rfl rfl (q_eqNilR ho hop hT hd (fun _ => rfl) hb hn h1)
theorem s_eq {op : BinOp} {t u : TypeId} {x y : Operand} (ho : o.op = .binOp op t x y u) (hop : op = .eql ∨ op = .neq) (hr : (match P.underlying t with
      | some (.int _) | some .string => some (.bin op (rArg x) (rArg y))
      | some .bool => some (.eqBool (negOf op) (rArg x) (rArg y))
      | some (.pointer e) => (match sizeOf? P e with
        | some (_ + 1) => some (.eqPtr (negOf op) (rArg x) (rArg y))
        | _ => none)
      | some (.slice _) => rNil (negOf op) .sl x y
      | some (.map _ _) => rNil (negOf op) .mp x y
      | some (.func _ _ _) => rNil (negOf op) .fn x y
      | some (.interface _) => rNil (negOf op) .ifc x y
      | some (.struct _) | some (.array _ _) => (match leaves P 20 t, sizeOf? P t, isAgg? P t with
        | some l, some n, some true => if P.eqGuardType P.depth t || !(l.all fun p => decide (p.1 < n)) then none else some (.eqCells (negOf op) n l (rArg x) (rArg y))
        | _, _, _ => none)
      | _ => none) = some c) (hv : Ops ι o a fr) (r : Rel ι base s w) (h : Runs c fr s id v s') : Says P ι base s w o a id c v s' := by
  have h1 := hv x (by rw [ho]; simp [Op.operands])
  have h2 := hv y (by rw [ho]; simp [Op.operands])
  have cellsEqual : (match leaves P 20 t, sizeOf? P t, isAgg? P t with
        | some l, some n, some true => if P.eqGuardType P.depth t || !(l.all fun p => decide (p.1 < n)) then none else some (.eqCells (negOf op) n l (rArg x) (rArg y))
        | _, _, _ => none) = some c → Says P ι base s w o a id c v s' := by
    intro hr
    split at hr
    · rename_i l n hl hn hg
      split at hr
      · cases hr
      · rename_i hcond
        cases hr
        simp only [Bool.or_eq_true, Bool.not_eq_true', not_or, Bool.not_eq_true, Bool.not_eq_false] at hcond
        obtain ⟨A, hA, H1⟩ := ob_eq.1 h
        obtain ⟨B, hB, H2⟩ := ob_eq.1 H1
        obtain ⟨k1, H3⟩ := must_eq.1 H2
        obtain ⟨k2, H4⟩ := must_eq.1 H3
        obtain ⟨q, hq, H5⟩ := om_eq.1 H4
        cases H5
        rw [Nat.beq_eq, lenL_eq] at k1 k2
        rw [asAgg_eq hA] at h1
        rw [asAgg_eq hB] at h2
        exact .mkQ rfl rfl (q_eqCells ho hop hl hn hg hcond.1 hcond.2 h1 h2 k1 k2 hq)
    · cases hr
  split at hr
  · cases hr
    obtain ⟨h3, h4⟩ := back_eq h
    exact .mkQ rfl h3 (q_bin ho h4 h1 h2)
  · cases hr
    obtain ⟨h3, h4⟩ := back_eq h
    exact .mkQ rfl h3 (q_bin ho h4 h1 h2)
  · rename_i hT
    cases hr
    obtain ⟨b, hb, h⟩ := om_eq.1 h
    cases h
    obtain ⟨p, hp, hb⟩ := ob_eq.1 hb
    obtain ⟨q, hq, hb⟩ := ob_eq.1 hb
    cases hb
    rw [asBool_eq hp] at h1
    rw [asBool_eq hq] at h2
    exact .mkQ rfl rfl (q_eqBool ho hop hT h1.boolE h2.boolE)
  · rename_i e hT
    split at hr
    · rename_i n hE
      cases hr
      obtain ⟨p, hp, h⟩ := ob_eq.1 h
      obtain ⟨q, hq, h⟩ := ob_eq.1 h
      rw [asPtr_eq hp] at h1
      rw [asPtr_eq hq] at h2
      have hs : s' = s := by
        cases p with
        | none => cases h; rfl
        | some p => cases q with
          | none => cases h; rfl
          | some q =>
            obtain ⟨_, h⟩ := must_eq.1 h
            obtain ⟨_, h⟩ := must_eq.1 h
            cases h; rfl
      subst hs
      exact .mkQ rfl rfl (q_eqPtr r ho hop hT hE h1 h2 h)
    · cases hr
  · rename_i hT; exact s_nil (k := .sl) ho hop hT trivial hr h1 h2 h
  · rename_i hT; exact s_nil (k := .mp) ho hop hT trivial hr h1 h2 h
  · rename_i hT; exact s_nil (k := .fn) ho hop hT trivial hr h1 h2 h
  · rename_i hT; exact s_nil (k := .ifc) ho hop hT trivial hr h1 h2 h
  · exact cellsEqual hr
  · exact cellsEqual hr
  · cases hr
end
end Go.Ev

namespace Go.Ev
open Go (Sem)
section
variable {P : Program} {ι : Inj} {w : World} {base : Nat} {s : St} {o : Oper} {a : Act} {fr : Fr} {id : Nat} {v : Value} {s' : St} {c : Cop}
theorem s_binOp {op : BinOp} {t u : TypeId} {x y : Operand} (ho : o.op = .binOp op t x y u) (hr : rOp P o.op = some c) (hv : Ops ι o a fr) (r : Rel ι base s w) (h : Runs c fr s id v s') : Says P ι base s w o a id c v s' := by
  rw [ho] at hr
  by_cases he : op = .eql
  · subst he; exact s_eq ho (.inl rfl) hr hv r h
  by_cases hn : op = .neq
  · subst hn; exact s_eq ho (.inr rfl) hr hv r h
  have h1 := hv x (by rw [ho]; simp [Op.operands])
  have h2 := hv y (by rw [ho]; simp [Op.operands])
  have : c = .bin op (rArg x) (rArg y) := by
    cases op <;> first | exact absurd rfl he | exact absurd rfl hn | (cases hr; rfl)
  subst this
  obtain ⟨h3, h4⟩ := back_eq h
  exact .mkQ rfl h3 (q_bin ho h4 h1 h2)
theorem s_unOp {op : UnOp} {t : TypeId} {x : Operand} (ho : o.op = .unOp op t x) (hr : rOp P o.op = some c) (hv : Ops ι o a fr) (r : Rel ι base s w) (h : Runs c fr s id v s') : Says P ι base s w o a id c v s' := by
  have h1 := hv x (by rw [ho]; simp [Op.operands])
  rw [ho] at hr; cases hr
  obtain ⟨h3, h4⟩ := back_eq h
  exact .mkQ rfl h3 (q_un ho h4 h1)
theorem s_convert {S D : TypeId} {x : Operand} (ho : o.op = .convert S D x) (hr : rOp P o.op = some c) (hv : Ops ι o a fr) (r : Rel ι base s w) (h : Runs c fr s id v s') : Says P ι base s w o a id c v s' := by
  have h1 := hv x (by rw [ho]; simp [Op.operands])
  rw [ho] at hr
  unfold rOp at hr
  simp only at hr
  split at hr
  · rename_i hS hD
    cases hr
    obtain ⟨n, hn, h⟩ := om_eq.1 h
    cases h
    exact .mkQ rfl rfl (q_convI ho hS hD hn h1)
  · rename_i hS hD
    cases hr
    obtain ⟨b, hb, h⟩ := om_eq.1 h
    cases h
    rw [asStr_eq hb] at h1 ⊢
    exact .mkQ rfl rfl (q_convStr ho hS hD h1.strE h1)
  · rename_i hS hD
    cases hr
    obtain ⟨n, hn, h⟩ := om_eq.1 h
    cases h
    exact .mkQ rfl rfl (q_convIS ho hS hD hn h1)
  · rename_i E hS hD
    split at hr
    · rename_i hE
      cases hr
      obtain ⟨b, hb, h⟩ := ob_eq.1 h
      obtain ⟨h2, h⟩ := must_eq.1 h
      cases h
      rw [asStr_eq hb] at h1
      rw [mapL_eq, lenL_eq]
      exact .mkN rfl fun g1 g2 g3 => d_convSB r ho hS hD hE h1 g1 g2 g3
    · cases hr
  · rename_i E hS hD
    split at hr
    · rename_i hE
      cases hr
      obtain ⟨p, hp, h⟩ := ob_eq.1 h
      obtain ⟨l, hl, h⟩ := ob_eq.1 h
      obtain ⟨b, hb, h⟩ := om_eq.1 h
      cases h
      exact .mkQ rfl rfl (q_convBS r ho hS hD hE h1 hp hl hb)
    · cases hr
  · rename_i E' E hS hD
    split at hr
    · rename_i hE
      split at hr
      · rename_i hsd
        rw [beq_iff_eq] at hsd
        subst hsd
        cases hr
        exact .mkW rfl fun T => d_convSS (id := id) r ho hD hE h1 h T
      · cases hr
    · cases hr
  · rename_i T hS hD
    split at hr
    · rename_i n hn
      cases hr
      obtain ⟨p, hp, h2⟩ := ob_eq.1 (show ob (asPtr ((rArg x).ev fr)) (fun p => Option.rec (some ((rArg x).ev fr, s)) (fun a => om (s.cell a) fun _ => ((rArg x).ev fr, s)) p) = some (v, s') from h)
      cases p with
      | none => cases h2; exact .mkQ rfl rfl (q_toUnsafe r ho hS hD hn h1 hp fun a h => by cases h)
      | some a =>
        obtain ⟨u, hu, h3⟩ := om_eq.1 (show om (s.cell a) (fun _ => ((rArg x).ev fr, s)) = some (v, s') from h2)
        cases h3
        exact .mkQ rfl rfl (q_toUnsafe r ho hS hD hn h1 hp fun a h => by cases h; exact ⟨u, hu⟩)
    · cases hr
  · rename_i T hS hD
    split at hr
    · rename_i n hn
      split at hr
      · rename_i hl
        cases hr
        obtain ⟨p, hp, h2⟩ := ob_eq.1 (show ob (asPtr ((rArg x).ev fr)) (fun p => Option.rec (some ((rArg x).ev fr, s)) (fun a => must (Nat.beq a.off 0) (must (isEx (s.get a.block)) (ob (asCells (s.get a.block)) fun c => must (Nat.beq (ety c.2.1) (Nat.succ T)) (must (Nat.beq (lenL c.1) (n + 1)) (some ((rArg x).ev fr, s)))))) p) = some (v, s') from h)
        cases p with
        | none => cases h2; exact .mkQ rfl rfl (q_ofUnsafe r ho hS hD hn hl h1 hp fun a h => by cases h)
        | some a =>
          obtain ⟨h3, H1⟩ := must_eq.1 (show must (Nat.beq a.off 0) (must (isEx (s.get a.block)) (ob (asCells (s.get a.block)) fun c => must (Nat.beq (ety c.2.1) (Nat.succ T)) (must (Nat.beq (lenL c.1) (n + 1)) (some ((rArg x).ev fr, s))))) = some (v, s') from h2)
          obtain ⟨h4, H2⟩ := must_eq.1 H1
          obtain ⟨cc, h5, H3⟩ := ob_eq.1 H2
          obtain ⟨h6, H4⟩ := must_eq.1 H3
          obtain ⟨h7, H5⟩ := must_eq.1 H4
          cases H5
          obtain ⟨cs, es, h8⟩ := isEx_eq h4
          have h9 := asCells_eq h5
          rw [h8] at h9
          simp only [Option.some.injEq, Ob.cells.injEq] at h9
          obtain ⟨e1, e2, _⟩ := h9
          rw [Nat.beq_eq] at h3 h6 h7
          rw [lenL_eq] at h7
          refine .mkQ rfl rfl (q_ofUnsafe r ho hS hD hn hl h1 hp fun a' h => ?_)
          cases h
          exact ⟨h3, cs, es, h8, by rw [e2]; exact h6, by rw [e1]; exact h7⟩
      · cases hr
    · cases hr
  · cases hr
theorem s_makeInterface {t : TypeId} {x : Operand} (ho : o.op = .makeInterface t x) (hr : rOp P o.op = some c) (hv : Ops ι o a fr) (r : Rel ι base s w) (h : Runs c fr s id v s') : Says P ι base s w o a id c v s' := by
  have h1 := hv x (by rw [ho]; simp [Op.operands])
  rw [ho] at hr
  unfold rOp at hr
  simp only at hr
  split at hr
  · cases hr
  · cases hr
  · rename_i d hne hT
    cases hr
    cases h
    exact .mkQ rfl rfl (q_iface ho hT (hne) h1)
theorem lr_ops {xs : List Operand} (h : ∀ x ∈ xs, VR ι ((rArg x).ev fr) (a.eval x)) : LR ι (evL fr (xs.map rArg)) (xs.map a.eval) := by
  unfold evL
  rw [mapL_eq]
  induction xs with
  | nil => exact .nil
  | cons x xs ih => exact .cons (h x (by simp)) (ih fun y hy => h y (by simp [hy]))
theorem s_makeFunc {f : Fn} {xs ys : Array Operand} (ho : o.op = .makeFunc f xs ys) (hr : rOp P o.op = some c) (hv : Ops ι o a fr) (r : Rel ι base s w) (h : Runs c fr s id v s') : Says P ι base s w o a id c v s' := by
  have h1 : ∀ x ∈ xs.toList, VR ι ((rArg x).ev fr) (a.eval x) := fun x hx => hv x (by rw [ho]; simp only [Op.operands, Array.toList_append, List.mem_append]; exact .inl hx)
  have h2 : ∀ x ∈ ys.toList, VR ι ((rArg x).ev fr) (a.eval x) := fun x hx => hv x (by rw [ho]; simp only [Op.operands, Array.toList_append, List.mem_append]; exact .inr hx)
  rw [ho] at hr
  cases f with
  | func g =>
    cases hr
    cases h
    exact .mkQ rfl rfl (q_mkFunc ho (lr_ops h1) (lr_ops h2))
  | _ => cases hr
theorem s_makeMap {t : TypeId} {x : Option Operand} (ho : o.op = .makeMap t x) (hr : rOp P o.op = some c) (hv : Ops ι o a fr) (r : Rel ι base s w) (h : Runs c fr s id v s') : Says P ι base s w o a id c v s' := by
  cases x with
  | none =>
    rw [ho] at hr; cases hr
    cases h
    exact .mkN rfl fun g1 g2 g3 => d_mkMap r ho (by intro h; cases h) (by intro x h; cases h) g1 g2 g3
  | some x =>
    have h1 := hv x (by rw [ho]; simp [Op.operands])
    rw [ho] at hr
    unfold rOp at hr
    simp only at hr
    split at hr
    · rename_i k e hT
      cases hr
      obtain ⟨hi, h⟩ := must_eq.1 h
      cases h
      have hi : (asInt ((rArg x).ev fr)).isSome = true := hi
      obtain ⟨n, hn⟩ := Option.isSome_iff_exists.1 hi
      rw [asInt_eq hn] at h1
      exact .mkN rfl fun g1 g2 g3 => d_mkMap r ho (fun _ => ⟨_, _, hT⟩) (by intro y hy; cases hy; exact ⟨n, h1.intE⟩) g1 g2 g3
    · cases hr
theorem s_makeSlice {t : TypeId} {x y : Operand} (ho : o.op = .makeSlice t x y) (hr : rOp P o.op = some c) (hv : Ops ι o a fr) (r : Rel ι base s w) (h : Runs c fr s id v s') : Says P ι base s w o a id c v s' := by
  have h1 := hv x (by rw [ho]; simp [Op.operands])
  have h2 := hv y (by rw [ho]; simp [Op.operands])
  rw [ho] at hr
  unfold rOp at hr
  simp only at hr
  split at hr
  · rename_i e hT
    obtain ⟨z, hz, hr⟩ := Option.bind_eq_some_iff.1 hr
    obtain ⟨b, hb, hr⟩ := Option.bind_eq_some_iff.1 hr
    obtain ⟨n, hn, hr⟩ := Option.bind_eq_some_iff.1 hr
    split at hr
    · cases hr
    rename_i hcond
    simp only [Bool.or_eq_true, beq_iff_eq, bne_iff_ne, ne_eq, not_or, Decidable.not_not] at hcond
    cases hr
    obtain ⟨l, hl, h⟩ := ob_eq.1 h
    obtain ⟨m, hm, h⟩ := ob_eq.1 h
    obtain ⟨e1, h⟩ := must_eq.1 h
    obtain ⟨e2, h⟩ := must_eq.1 h
    obtain ⟨e3, h⟩ := must_eq.1 h
    cases h
    rw [Nat.ble_eq] at e1 e2 e3
    rw [zeros_eq]
    exact .mkN rfl fun g1 g2 g3 => d_mkSlice r ho hT hz hb hn hcond.1 (by omega) hl hm h1 h2 e1 e2 e3 g1 g2 g3
  · cases hr
theorem s_slice {t : TypeId} {x : Operand} {lo hi mx : Option Operand} (ho : o.op = .slice t x lo hi mx) (hr : rOp P o.op = some c) (hv : Ops ι o a fr) (r : Rel ι base s w) (h : Runs c fr s id v s') : Says P ι base s w o a id c v s' := by
  have h1 := hv x (by rw [ho]; simp [Op.operands])
  have h2 : ∀ y, lo = some y → VR ι ((rArg y).ev fr) (a.eval y) := by rintro y rfl; exact hv y (by rw [ho]; simp [Op.operands])
  have h3 : ∀ y, hi = some y → VR ι ((rArg y).ev fr) (a.eval y) := by rintro y rfl; exact hv y (by rw [ho]; simp [Op.operands])
  have h4 : ∀ y, mx = some y → VR ι ((rArg y).ev fr) (a.eval y) := by rintro y rfl; exact hv y (by rw [ho]; simp [Op.operands])
  rw [ho] at hr
  unfold rOp at hr
  simp only at hr
  split at hr
  · rename_i hT
    split at hr
    · cases hr
      obtain ⟨b, hb, h⟩ := ob_eq.1 h
      obtain ⟨hh, e1, h⟩ := ob_eq.1 h
      obtain ⟨l, e2, h⟩ := om_eq.1 h
      cases h
      rw [asStr_eq hb] at h1
      rw [lenL_eq] at e1
      rw [takeL_eq, dropL_eq]
      exact .mkQ rfl rfl (q_sliceS ho hT h1 h2 h3 e1 e2)
    · cases hr
  · rename_i e hT
    split at hr
    · cases hr
    rename_i hc
    obtain ⟨n, hn, hr⟩ := Option.bind_eq_some_iff.1 hr
    split at hr
    · cases hr
    rename_i h0
    cases hr
    obtain ⟨e1, e2⟩ := back_eq h
    refine .mkQ rfl e1 (q_sliceV r ho hT hn ?_ h1 h2 h3 h4 e2)
    intro hm
    cases hi with
    | some _ => rfl
    | none => simp [hm] at hc
  · rename_i len e hT
    split at hr
    · cases hr
    rename_i hc
    obtain ⟨n, hn, rfl⟩ := Option.map_eq_some_iff.1 hr
    obtain ⟨ad, ha, h⟩ := ob_eq.1 h
    obtain ⟨e1, e2⟩ := back_eq h
    rw [asAddr_eq ha] at h1
    simp only [Bool.or_eq_true, Bool.and_eq_true, decide_eq_true_eq, not_or] at hc
    have hlt : len < open_ := by unfold open_; omega
    have e3 : sliceExact n (some ad) len len (evO fr (lo.map rArg)) (evO fr (hi.map rArg)) (evO fr (mx.map rArg)) = some v := by
      have e4 : (cnd (Nat.beq len open_) (sliceOpen s n (some ad) len (evO fr (lo.map rArg)) (evO fr (hi.map rArg)) (evO fr (mx.map rArg))) (sliceExact n (some ad) len len (evO fr (lo.map rArg)) (evO fr (hi.map rArg)) (evO fr (mx.map rArg)))) = some v := e2
      rw [cnd_eq, if_neg (by rw [Nat.beq_eq]; omega)] at e4
      exact e4
    refine .mkQ rfl e1 (q_sliceA ho hT hn hlt ?_ h1 h2 h3 h4 e3)
    intro hm
    cases hi with
    | some _ => rfl
    | none => simp [hm] at hc
  · cases hr
theorem s_fieldAddr {t : TypeId} {x : Operand} {i : Nat} (ho : o.op = .fieldAddr t x i) (hr : rOp P o.op = some c) (hv : Ops ι o a fr) (r : Rel ι base s w) (h : Runs c fr s id v s') : Says P ι base s w o a id c v s' := by
  have h1 := hv x (by rw [ho]; simp [Op.operands])
  rw [ho] at hr
  unfold rOp at hr
  simp only at hr
  split at hr
  · rename_i fs hT
    obtain ⟨f, hf, hr⟩ := Option.bind_eq_some_iff.1 hr
    obtain ⟨n, hn, hr⟩ := Option.bind_eq_some_iff.1 hr
    split at hr
    · cases hr
    rename_i h0
    cases hr
    obtain ⟨ad, ha, h⟩ := om_eq.1 h
    cases h
    rw [asAddr_eq ha] at h1
    exact .mkQ rfl rfl (q_faddr ho hT hf hn (by simpa using h0) h1)
  · cases hr
theorem s_field {t : TypeId} {x : Operand} {i : Nat} (ho : o.op = .field t x i) (hr : rOp P o.op = some c) (hv : Ops ι o a fr) (r : Rel ι base s w) (h : Runs c fr s id v s') : Says P ι base s w o a id c v s' := by
  have h1 := hv x (by rw [ho]; simp [Op.operands])
  rw [ho] at hr
  unfold rOp at hr
  simp only at hr
  split at hr
  · rename_i fs hT
    obtain ⟨f, hf, hr⟩ := Option.bind_eq_some_iff.1 hr
    obtain ⟨g, hg, hr⟩ := Option.bind_eq_some_iff.1 hr
    obtain ⟨n, hn, hr⟩ := Option.bind_eq_some_iff.1 hr
    cases hr
    obtain ⟨l, hl, h⟩ := ob_eq.1 h
    obtain ⟨e1, e2⟩ := back_eq h
    rw [asAgg_eq hl] at h1
    exact .mkQ rfl e1 (q_fieldV ho hT hf hg hn h1 e2)
  · cases hr
theorem s_indexAddr {t : TypeId} {x i : Operand} (ho : o.op = .indexAddr t x i) (hr : rOp P o.op = some c) (hv : Ops ι o a fr) (r : Rel ι base s w) (h : Runs c fr s id v s') : Says P ι base s w o a id c v s' := by
  have h1 := hv x (by rw [ho]; simp [Op.operands])
  have h2 := hv i (by rw [ho]; simp [Op.operands])
  rw [ho] at hr
  unfold rOp at hr
  simp only at hr
  split at hr
  · rename_i len e hT
    obtain ⟨n, hn, rfl⟩ := Option.map_eq_some_iff.1 hr
    obtain ⟨ad, ha, h⟩ := ob_eq.1 h
    obtain ⟨k, hk, h⟩ := ob_eq.1 h
    obtain ⟨hlt, h⟩ := must_eq.1 h
    cases h
    rw [asAddr_eq ha] at h1
    rw [Nat.blt_eq] at hlt
    exact .mkQ rfl rfl (q_iaddrA ho hT hn hk hlt h1 h2)
  · rename_i e hT
    obtain ⟨n, hn, rfl⟩ := Option.map_eq_some_iff.1 hr
    obtain ⟨⟨a0, len, cap⟩, ha, h⟩ := ob_eq.1 h
    obtain ⟨ad, had, h⟩ := ob_eq.1 h
    obtain ⟨k, hk, h⟩ := ob_eq.1 h
    obtain ⟨hlt, h⟩ := must_eq.1 h
    cases h
    rw [asSl_eq ha] at h1
    simp only at had hlt h1
    cases had
    rw [Nat.blt_eq] at hlt
    exact .mkQ rfl rfl (q_iaddrV ho hT hn hk hlt h1 h2)
  · cases hr
theorem s_index {t : TypeId} {x i : Operand} (ho : o.op = .index t x i) (hr : rOp P o.op = some c) (hv : Ops ι o a fr) (r : Rel ι base s w) (h : Runs c fr s id v s') : Says P ι base s w o a id c v s' := by
  have h1 := hv x (by rw [ho]; simp [Op.operands])
  have h2 := hv i (by rw [ho]; simp [Op.operands])
  rw [ho] at hr
  unfold rOp at hr
  simp only at hr
  split at hr
  · rename_i len e hT
    obtain ⟨g, hg, hr⟩ := Option.bind_eq_some_iff.1 hr
    obtain ⟨n, hn, hr⟩ := Option.bind_eq_some_iff.1 hr
    cases hr
    obtain ⟨l, hl, h⟩ := ob_eq.1 h
    obtain ⟨k, hk, h⟩ := ob_eq.1 h
    obtain ⟨hlt, h⟩ := must_eq.1 h
    obtain ⟨e1, e2⟩ := back_eq h
    rw [asAgg_eq hl] at h1
    rw [Nat.blt_eq] at hlt
    exact .mkQ rfl e1 (q_idxA ho hT hg hn h1 hk h2 hlt e2)
  · rename_i hT
    cases hr
    obtain ⟨b, hb, h⟩ := ob_eq.1 h
    obtain ⟨k, hk, h⟩ := ob_eq.1 h
    obtain ⟨cc, hcc, h⟩ := om_eq.1 h
    cases h
    rw [asStr_eq hb] at h1
    rw [nthL_eq] at hcc
    exact .mkQ rfl rfl (q_idxS ho hT h1 hk h2 hcc)
  · cases hr
theorem s_lookup {t : TypeId} {m k : Operand} {ok : Bool} (ho : o.op = .lookup t m k ok) (hr : rOp P o.op = some c) (hv : Ops ι o a fr) (r : Rel ι base s w) (h : Runs c fr s id v s') : Says P ι base s w o a id c v s' := by
  have h1 := hv m (by rw [ho]; simp [Op.operands])
  have h2 := hv k (by rw [ho]; simp [Op.operands])
  rw [ho] at hr
  unfold rOp at hr
  simp only at hr
  split at hr
  · rename_i kt e hT
    obtain ⟨z, hz, hr⟩ := Option.bind_eq_some_iff.1 hr
    obtain ⟨ck, hck, hr⟩ := Option.bind_eq_some_iff.1 hr
    cases hr
    obtain ⟨es, hes, h⟩ := ob_eq.1 h
    obtain ⟨q, hq, h⟩ := om_eq.1 h
    cases h
    exact .mkQ rfl rfl (q_lookup r ho hT (keyKs_eq hck) hz h1 h2 hes hq)
  · cases hr
theorem s_mapSet {t : TypeId} {m k x : Operand} (ho : o.op = .mapUpdate t m k x ∨ o.op = .insert t m k x) (hr : rOp P o.op = some c) (hv : Ops ι o a fr) (r : Rel ι base s w) (h : Runs c fr s id v s') : Says P ι base s w o a id c v s' := by
  have h1 := hv m (by rcases ho with ho | ho <;> (rw [ho]; simp [Op.operands]))
  have h2 := hv k (by rcases ho with ho | ho <;> (rw [ho]; simp [Op.operands]))
  have h3 := hv x (by rcases ho with ho | ho <;> (rw [ho]; simp [Op.operands]))
  have hr : (match P.underlying t with
    | some (.map kt _) => (keyKs P kt).bind fun c => some (.mapSet (some c) (rArg m) (rArg k) (rArg x))
    | _ => none) = some c := by rcases ho with ho | ho <;> (rw [ho] at hr; exact hr)
  split at hr
  · rename_i kt e hT
    obtain ⟨ck, hck, hr⟩ := Option.bind_eq_some_iff.1 hr
    cases hr
    exact .mkW rfl fun S => d_mapSet (id := id) r ho hT (keyKs_eq hck) h1 h2 h3 h S
  · cases hr
theorem s_range {t : TypeId} {x : Operand} (ho : o.op = .range t x) (hr : rOp P o.op = some c) (hv : Ops ι o a fr) (r : Rel ι base s w) (h : Runs c fr s id v s') : Says P ι base s w o a id c v s' := by
  have h1 := hv x (by rw [ho]; simp [Op.operands])
  rw [ho] at hr
  unfold rOp at hr
  simp only at hr
  split at hr
  · rename_i hT
    cases hr
    obtain ⟨b, hb, h⟩ := om_eq.1 h
    cases h
    rw [asStr_eq hb] at h1
    exact .mkN rfl fun g1 g2 g3 => d_rangeS r ho hT h1 g1 g2 g3
  · cases hr
theorem s_next {x : Operand} {b : Bool} (ho : o.op = .next x b) (hr : rOp P o.op = some c) (hv : Ops ι o a fr) (r : Rel ι base s w) (h : Runs c fr s id v s') : Says P ι base s w o a id c v s' := by
  have h1 := hv x (by rw [ho]; simp [Op.operands])
  rw [ho] at hr
  cases b
  · cases hr
  · cases hr
    exact .mkW rfl fun S => d_nextS (id := id) r ho h1 h S
theorem s_extract {x : Operand} {i : Nat} (ho : o.op = .extract x i) (hr : rOp P o.op = some c) (hv : Ops ι o a fr) (r : Rel ι base s w) (h : Runs c fr s id v s') : Says P ι base s w o a id c v s' := by
  have h1 := hv x (by rw [ho]; simp [Op.operands])
  rw [ho] at hr; cases hr
  obtain ⟨l, hl, h⟩ := ob_eq.1 h
  obtain ⟨e1, e2⟩ := back_eq h
  rw [asTup_eq hl] at h1
  rw [nthL_eq] at e2
  exact .mkQ rfl e1 (q_extract ho e2 h1)
end
end Go.Ev

namespace Go.Ev
open Go (Sem)
section
variable {P : Program} {ι : Inj} {w : World} {base : Nat} {s : St} {o : Oper} {a : Act} {fr : Fr} {id : Nat} {v : Value} {s' : St} {c : Cop}
theorem at0 {α : Type} {xs : Array α} {x : α} {l : List α} (h : xs.toList = x :: l) : xs[0]? = some x := by rw [← Array.getElem?_toList, h]; rfl
theorem s_builtin {cl : Call} {b : Builtin} (ho : o.op = .call cl) (hb : cl.callee = .builtin b) (hr : rOp P o.op = some c) (hv : ∀ x ∈ cl.args.toList, VR ι ((rArg x).ev fr) (a.eval x)) (r : Rel ι base s w) (h : Runs c fr s id v s') : Says P ι base s w o a id c v s' := by
  rw [ho] at hr
  unfold rOp at hr
  simp only [hb] at hr
  split at hr
  · -- len
    rename_i x t l ha ht
    have h1 := hv x (by rw [ha]; simp)
    split at hr
    · rename_i hT
      cases hr
      obtain ⟨q, hq, h⟩ := om_eq.1 h
      cases h
      rw [asStr_eq hq] at h1
      exact .mkQ rfl rfl (q_lenS ho hb (arr1 ha) (at0 ht) hT h1)
    · rename_i e hT
      cases hr
      obtain ⟨q, hq, h⟩ := om_eq.1 h
      cases h
      rw [asSl_eq hq] at h1
      exact .mkQ rfl rfl (q_lenV ho hb (arr1 ha) (at0 ht) hT h1)
    · rename_i k e hT
      cases hr
      obtain ⟨q, hq, h⟩ := om_eq.1 h
      cases h
      rw [lenL_eq]
      exact .mkQ rfl rfl (q_lenM r ho hb (arr1 ha) (at0 ht) hT h1 hq)
    · rename_i n e hT
      cases hr
      cases h
      exact .mkQ rfl rfl (q_lenArr (.inl rfl) ho hb (arr1 ha) (at0 ht) (.inl hT))
    · rename_i A hT
      split at hr
      · rename_i n e hA
        cases hr
        cases h
        exact .mkQ rfl rfl (q_lenArr (.inl rfl) ho hb (arr1 ha) (at0 ht) (.inr ⟨A, hT, hA⟩))
      · cases hr
    · cases hr
  · -- cap
    rename_i x t l ha ht
    have h1 := hv x (by rw [ha]; simp)
    split at hr
    · rename_i e hT
      cases hr
      obtain ⟨q, hq, h⟩ := ob_eq.1 h
      obtain ⟨hne, h⟩ := must_eq.1 h
      cases h
      rw [asSl_eq hq] at h1
      refine .mkQ rfl rfl (q_capV ho hb (arr1 ha) (at0 ht) hT ?_ h1)
      intro he
      rw [he] at hne
      cases hne
    · rename_i n e hT
      cases hr
      cases h
      exact .mkQ rfl rfl (q_lenArr (.inr rfl) ho hb (arr1 ha) (at0 ht) (.inl hT))
    · cases hr
  · -- append
    rename_i x y t u ha ht
    have h1 := hv x (by rw [ha]; simp)
    have h2 := hv y (by rw [ha]; simp)
    split at hr
    · rename_i e kn hT hU
      obtain ⟨n, hn, hr⟩ := Option.bind_eq_some_iff.1 hr
      obtain ⟨bb, hbb, hr⟩ := Option.bind_eq_some_iff.1 hr
      obtain ⟨z, hz, hr⟩ := Option.bind_eq_some_iff.1 hr
      split at hr
      · cases hr
      rename_i hcond
      simp only [Bool.or_eq_true, beq_iff_eq, bne_iff_ne, ne_eq, not_or, Decidable.not_not] at hcond
      obtain ⟨⟨⟨c1, c2⟩, c3⟩, c4⟩ := hcond
      cases hr
      exact .mkW rfl fun S => d_appendZ (id := id) r ho hb ht ha hT hU hn hbb hz c3 (by omega) (by simpa using c4) (by omega) h1 h2 h S
    · rename_i e e' hT hU
      obtain ⟨n, hn, hr⟩ := Option.bind_eq_some_iff.1 hr
      obtain ⟨bb, hbb, hr⟩ := Option.bind_eq_some_iff.1 hr
      obtain ⟨z, hz, hr⟩ := Option.bind_eq_some_iff.1 hr
      split at hr
      · cases hr
      rename_i hcond
      simp only [Bool.or_eq_true, beq_iff_eq, bne_iff_ne, ne_eq, not_or, Decidable.not_not] at hcond
      obtain ⟨⟨⟨c1, c2⟩, c3⟩, c4⟩ := hcond
      cases hr
      exact .mkW rfl fun S => d_append r ho hb ht ha hT (.inl ⟨_, hU⟩) hn hbb hz c3 (by omega) (by simpa using c4) (by omega) h1 h2 h S
    · rename_i e hT hU
      obtain ⟨n, hn, hr⟩ := Option.bind_eq_some_iff.1 hr
      obtain ⟨bb, hbb, hr⟩ := Option.bind_eq_some_iff.1 hr
      obtain ⟨z, hz, hr⟩ := Option.bind_eq_some_iff.1 hr
      split at hr
      · cases hr
      rename_i hcond
      simp only [Bool.or_eq_true, beq_iff_eq, bne_iff_ne, ne_eq, not_or, Decidable.not_not] at hcond
      obtain ⟨⟨c1, c2⟩, c3⟩ := hcond
      cases hr
      exact .mkW rfl fun S => d_append r ho hb ht ha hT (.inr hU) hn hbb hz c3 (by omega) (by omega) (by omega) h1 h2 h S
    · cases hr
  · -- copy
    rename_i x y t l ha ht
    have h1 := hv x (by rw [ha]; simp)
    have h2 := hv y (by rw [ha]; simp)
    split at hr
    · rename_i e hT
      obtain ⟨n, hn, rfl⟩ := Option.map_eq_some_iff.1 hr
      exact .mkW rfl fun S => d_copy (id := id) r ho hb ht ha hT hn h1 h2 h S
    · cases hr
  · -- delete
    rename_i m k t l ha ht
    have h1 := hv m (by rw [ha]; simp)
    have h2 := hv k (by rw [ha]; simp)
    split at hr
    · rename_i kt e hT
      obtain ⟨ck, hck, hr⟩ := Option.bind_eq_some_iff.1 hr
      cases hr
      exact .mkW rfl fun S => d_delete (id := id) r ho hb (at0 ht) ha hT (keyKs_eq hck) h1 h2 h S
    · cases hr
  · -- clear
    rename_i x t l ha ht
    have h1 := hv x (by rw [ha]; simp)
    split at hr
    · rename_i kt e hT
      cases hr
      exact .mkW rfl fun S => d_clearM (id := id) r ho hb (at0 ht) ha hT h1 h S
    · rename_i e hT
      obtain ⟨z, hz, hr⟩ := Option.bind_eq_some_iff.1 hr
      split at hr
      · cases hr
      rename_i hzp
      cases hr
      exact .mkW rfl fun S => d_clearV (id := id) r ho hb (at0 ht) ha hT hz (by simp only [beq_iff_eq] at hzp; omega) h1 h S
    · cases hr
  · -- min
    rename_i t l ht
    split at hr
    · rename_i kt hT
      cases hr
      have hl := lr_ops hv
      have h : (List.casesOn (evL fr (cl.args.toList.map rArg)) none (fun x r => back s (minmaxL false r x)) : R) = some (v, s') := h
      cases e : evL fr (cl.args.toList.map rArg) with
      | nil => rw [e] at h; cases h
      | cons x xs =>
        rw [e] at h
        obtain ⟨e1, e2⟩ := back_eq h
        exact .mkQ rfl e1 (q_minmax (mx := false) ho hb hl e e2)
    · cases hr
  · -- unsafe.SliceData
    rename_i l x ha
    have h1 := hv x (by rw [ha]; simp)
    cases hr
    obtain ⟨p, hp, h2⟩ := ob_eq.1 (show ob (asSl ((rArg x).ev fr)) (fun p => Option.rec (some (.pointer none, s)) (fun a => must (cnd (Nat.beq p.2.2 open_) (!Nat.beq p.2.1 0) (!Nat.beq p.2.2 0)) (some (.pointer (some a), s))) p.1) = some (v, s') from h)
    obtain ⟨pa, pn, pk⟩ := p
    cases pa with
    | none => cases h2; exact .mkQ rfl rfl (q_sliceData ho hb (arr1 ha) h1 hp fun h => by cases h)
    | some a =>
      obtain ⟨h3, h4⟩ := must_eq.1 (show must (cnd (Nat.beq pk open_) (!Nat.beq pn 0) (!Nat.beq pk 0)) (some (.pointer (some a), s)) = some (v, s') from h2)
      cases h4
      refine .mkQ rfl rfl (q_sliceData ho hb (arr1 ha) h1 hp fun _ => ?_)
      rw [cnd_eq] at h3
      split at h3
      · rename_i hh; rw [Nat.beq_eq] at hh; rw [if_pos hh]; intro e; rw [e] at h3; cases h3
      · rename_i hh; rw [Nat.beq_eq] at hh; rw [if_neg hh]; intro e; rw [e] at h3; cases h3
  · -- unsafe.String
    rename_i x y t u ha ht
    have h1 := hv x (by rw [ha]; simp)
    have h2 := hv y (by rw [ha]; simp)
    split at hr
    · rename_i T hT
      split at hr
      · rename_i hc
        cases hr
        exact .mkW rfl fun S => d_unsafeStr (id := id) r ho hb ha ht hT (by simpa using hc) h1 h2 h S
      · cases hr
    · cases hr
  · -- max
    rename_i t l ht
    split at hr
    · rename_i kt hT
      cases hr
      have hl := lr_ops hv
      have h : (List.casesOn (evL fr (cl.args.toList.map rArg)) none (fun x r => back s (minmaxL true r x)) : R) = some (v, s') := h
      cases e : evL fr (cl.args.toList.map rArg) with
      | nil => rw [e] at h; cases h
      | cons x xs =>
        rw [e] at h
        obtain ⟨e1, e2⟩ := back_eq h
        exact .mkQ rfl e1 (q_minmax (mx := true) ho hb hl e e2)
    · cases hr
  · cases hr
theorem op_ok (hr : rOp P o.op = some c) (hv : Ops ι o a fr) (r : Rel ι base s w) (h : Runs c fr s id v s') : Says P ι base s w o a id c v s' := by
  cases ho : o.op with
  | move x => exact s_move (.inl ho) hr hv r h
  | assign x => exact s_move (.inr ho) hr hv r h
  | pick x y z => exact s_pick ho hr hv r h
  | alloc t => exact s_alloc ho hr hv r h
  | box t x => exact s_box ho hr hv r h
  | build t ps => exact s_build ho hr hv r h
  | buildSlice t n ps => exact s_buildSlice ho hr hv r h
  | load t x => exact s_load ho hr hv r h
  | store t x y => exact s_store ho hr hv r h
  | nilCheck x => exact s_nilCheck ho hr hv r h
  | binOp op t x y u => exact s_binOp ho hr hv r h
  | unOp op t x => exact s_unOp ho hr hv r h
  | convert s d x => exact s_convert ho hr hv r h
  | makeInterface t x => exact s_makeInterface ho hr hv r h
  | makeFunc f xs ys => exact s_makeFunc ho hr hv r h
  | makeMap t x => exact s_makeMap ho hr hv r h
  | makeSlice t x y => exact s_makeSlice ho hr hv r h
  | slice t x lo hi mx => exact s_slice ho hr hv r h
  | fieldAddr t x i => exact s_fieldAddr ho hr hv r h
  | field t x i => exact s_field ho hr hv r h
  | indexAddr t x i => exact s_indexAddr ho hr hv r h
  | index t x i => exact s_index ho hr hv r h
  | lookup t m k ok => exact s_lookup ho hr hv r h
  | mapUpdate t m k x => exact s_mapSet (.inl ho) hr hv r h
  | insert t m k x => exact s_mapSet (.inr ho) hr hv r h
  | range t x => exact s_range ho hr hv r h
  | next x b => exact s_next ho hr hv r h
  | extract x i => exact s_extract ho hr hv r h
  | call cl =>
    cases hc : cl.callee with
    | builtin b => exact s_builtin ho hc hr (fun x hx => hv x (by rw [ho]; simp only [Op.operands, Call.operands, hc]; simpa using hx)) r h
    | value f =>
      rw [ho] at hr
      unfold rOp at hr
      simp only [hc] at hr
      split at hr
      · cases hr; cases h
      · cases hr; cases h
      · cases hr
      · rename_i hh; cases hh
    | invoke x m =>
      rw [ho] at hr
      unfold rOp at hr
      simp only [hc] at hr
      cases hr
  | _ => rw [ho] at hr; cases hr
end
end Go.Ev

namespace Go.Ev
open Go (Sem)
def CallDo (P : Program) (f : FuncId) (args : Array Value) (w : World) (R : Value → World → Prop) : Prop :=
  (∃ v w', (callFunc f args).run P w = .ok (.value v) w' ∧ R v w') ∨
  ((callFunc f args).run P w = .ok (.enter f args) w ∧ Calls P f args w fun | .returned v, w' => R v w' | _, _ => False)
abbrev Wd (ro : Option Nat) : Fence := { Fence.wide with round := ro }
theorem rOp_nd {P : Program} {op : Go.Op} {c : Cop} (h : rOp P op = some c) : ∀ x, op ≠ .defer x := by
  rintro x rfl; cases h
abbrev none_ : Nat → Prop := fun _ => False
def GoodCall (P : Program) (call : Caller) : Prop :=
  ∀ (ι : Inj) (base : Nat) (s : St) (w : World) (f : FuncId) (args args' : List Value) (v : Value) (s' : St), Globs P ι → Rel ι base s w → LR ι args args' → call f args s = some (v, s') →
    CallDo P f ⟨args'⟩ w fun v' w' => ∃ κ, Ext none_ ι base s w κ s' w' ∧ VR κ v v'
def DoesOp (P : Program) (S : Nat → Prop) (ι : Inj) (base : Nat) (s : St) (w : World) (o : Oper) (a : Act) (v : Value) (s' : St) : Prop :=
  ∀ (ro : Option Nat) (next : Act → World → Prop) (Q : Exit → Act → World → Prop), (∀ κ v' w', Ext S ι base s w κ s' w' → VR κ v v' → next (a.put o.dst v') w') → o.wpIn (Wd ro) 0 P a w next Q
def Looks (P : Program) (ι : Inj) (w : World) (o : Oper) (a : Act) (v : Value) : Prop :=
  ∃ v', VR ι v v' ∧ ∀ (ro : Option Nat) (next : Act → World → Prop) (Q : Exit → Act → World → Prop), next (a.put o.dst v') w → o.wpIn (Wd ro) 0 P a w next Q
section
variable {P : Program} {ι : Inj} {w : World} {base : Nat} {s : St} {o : Oper} {a : Act} {fr : Fr} {id : Nat} {v : Value} {s' : St} {c : Cop}
theorem Does.op (hnd : ∀ c, o.op ≠ .defer c) {S : Nat → Prop} (h : Does P S ι base s w (execOp a.eval o) v s') : DoesOp P S ι base s w o a v s' := by
  intro ro next Q hn
  obtain ⟨κ, nx, w', h1, h2, h3⟩ := h
  refine ⟨fun _ _ => trivial, ?_⟩
  rw [Oper.semAt_eq _ _ _ hnd, h1]
  rcases h3 with ⟨v', rfl, hv⟩ | ⟨rfl, rfl⟩
  · exact hn κ v' w' h2 hv
  · exact hn κ _ w' h2 .undef
theorem Ok.looks (hnd : ∀ c, o.op ≠ .defer c) (h : Ok P ι w (execOp a.eval o) v) : Looks P ι w o a v := by
  obtain ⟨v', h1, h2⟩ := h
  refine ⟨v', h2, fun ro next Q hn => ⟨fun _ _ => trivial, ?_⟩⟩
  rw [Oper.semAt_eq _ _ _ hnd, h1]
  exact hn
theorem CallDo.upon {f : FuncId} {args : Array Value} {R : Value → World → Prop} (h : CallDo P f args w R) (ro : Option Nat) (next : Act → World → Prop) (Q : Exit → Act → World → Prop) (hn : ∀ v w', R v w' → next (a.put o.dst v) w') :
    o.uponIn (Wd ro) 0 P a next Q ((callFunc f args).run P w) := by
  rcases h with ⟨v, w', h1, h2⟩ | ⟨h1, h2⟩
  · rw [h1]; exact hn v w' h2
  · rw [h1]
    refine ⟨fun h => (by cases h), ?_⟩
    show CallsIn Fence.wide _ _ _ _ _ _
    refine callsIn_wide.2 (Calls.mono h2 fun e w'' he => ?_)
    cases e with
    | returned v => exact hn v w'' he
    | panicked _ => exact he.elim
    | outgrown => exact he.elim
theorem LR.array {l : List Value} {xs : Array Operand} (h : LR ι l (xs.toList.map a.eval)) : LR ι l (xs.map a.eval).toList := by
  rw [Array.toList_map]; exact h
theorem call_ok {call : Caller} (hcall : GoodCall P call) {round : Rounder} (hr : rOp P o.op = some c) (hc : isValueCall o.op = true) (hv : Ops ι o a fr) (hg : Globs P ι) (r : Rel ι base s w) (hround : ∀ l args s v s', ∀ ι' w', Rel ι' base s w' → round l args s = some (v, s') → False)
    (h : (oneOp c).run call round fr s id = some (v, s')) (S : Nat → Prop) : DoesOp P S ι base s w o a v s' := by
  cases ho : o.op with
  | call cl =>
    cases hcl : cl.callee with
    | builtin b =>
      rw [ho] at hc
      unfold isValueCall at hc
      simp only [hcl] at hc
      cases hc
    | value f =>
      have h1 : ∀ x ∈ cl.args.toList, VR ι ((rArg x).ev fr) (a.eval x) := fun x hx => hv x (by
        rw [ho]; simp only [Op.operands, Call.operands, hcl]; simp [hx] <;> first | exact .inr (by simpa using hx) | exact .inl (by simpa using hx))
      have h2 : VR ι ((rArg f).ev fr) (a.eval f) := hv f (by rw [ho]; simp [Op.operands, Call.operands, hcl])
      have hl := lr_ops h1
      have hexec : (execOp a.eval o).run P w = (do let d ← Deferred.ofValue (a.eval f) (cl.args.map a.eval); invoke d.target d.args : Sem Next).run P w := by
        simp only [execOp, ho, resolve, hcl]
      intro ro next Q hn
      refine ⟨fun _ _ => trivial, ?_⟩
      rw [Oper.semAt_eq _ _ _ (by rw [ho]; intro c hc'; cases hc'), hexec]
      have fin : ∀ (g : FuncId) (args args' : List Value), LR ι args args' → call g args s = some (v, s') → o.uponIn (Wd ro) 0 P a next Q ((callFunc g ⟨args'⟩).run P w) := by
        intro g args args' hla hcg
        refine (hcall ι base s w g args args' v s' hg r hla hcg).upon ro next Q ?_
        intro v' w' ⟨κ, e1, e2⟩
        exact hn κ v' w' (e1.mono fun _ h => h.elim) e2
      rw [ho] at hr
      unfold rOp at hr
      simp only [hcl] at hr
      split at hr
      · -- a function by its name
        rename_i g hcl2
        cases hcl2
        cases hr
        have h : call g (evL fr (cl.args.toList.map rArg)) s = some (v, s') := h
        have := fin g _ _ hl h
        have e1 : (⟨cl.args.toList.map a.eval⟩ : Array Value) = cl.args.map a.eval := by apply Array.ext'; simp
        rw [e1] at this
        simpa [Deferred.ofValue, Act.eval, invoke, Result.andThen] using this
      · -- a value
        rename_i f1 _ hcl2
        cases hcl2
        cases hr
        have h : callV call round ((rArg f).ev fr) (evL fr (cl.args.toList.map rArg)) s = some (v, s') := h
        obtain ⟨⟨fn, first, capt⟩, hf, h⟩ := ob_eq.1 h
        rw [asFunc_eq hf] at h2
        cases fn with
        | func g =>
          simp only at h2
          have h : call g (appL first (appL (evL fr (cl.args.toList.map rArg)) capt)) s = some (v, s') := h
          rw [appL_eq, appL_eq] at h
          generalize hF : a.eval f = F at h2
          cases h2 with
          | func hfn ha hav hcc hcv =>
            cases hfn
            have := fin g _ _ ((LR.of ha hav).append (hl.append (LR.of hcc hcv))) h
            have e1 : ∀ (x y : List Value), (⟨x ++ (cl.args.toList.map a.eval ++ y)⟩ : Array Value) = (⟨x⟩ ++ cl.args.map a.eval) ++ ⟨y⟩ := by intro x y; apply Array.ext'; simp
            rw [e1] at this
            simpa [Deferred.ofValue, invoke, Result.andThen] using this
        | yield l =>
          obtain ⟨l', _, h⟩ := ob_eq.1 (show ob (fnYield (.yield l)) (fun l => round l (appL first (evL fr (cl.args.toList.map rArg))) s) = some (v, s') from h)
          exact (hround _ _ _ _ _ _ _ r h).elim
        | _ => cases h
      · cases hr
      · rename_i hh; cases hh
    | invoke x m =>
      rw [ho] at hr
      unfold rOp at hr
      simp only [hcl] at hr
      cases hr
  | _ =>
    rw [ho] at hc
    cases hc
end
end Go.Ev

namespace Go.Ev
open Go (Sem)
section
variable {P : Program} {ι : Inj} {w : World} {base : Nat} {s : St} {o : Oper} {a : Act} {fr : Fr} {id nt : Nat} {v : Value} {s' : St} {co : COper} {ops : Array Oper}
theorem oneOp_eq {c : Cop} (h : isCall c = false) (call : Caller) (round : Rounder) (fr : Fr) (s : St) (id : Nat) : (oneOp c).run call round fr s id = (cop c).run fr s id := by
  cases c <;> first | rfl | cases h
theorem rOper_eq {i : Nat} (h : rOper P nt ops o i = some co) : ∃ c, rOp P o.op = some c ∧ co = { dst := o.dst, op := c, guard := o.guard.map fun (j, want) => ((ops[j]?).bind (·.dst), want), ix := i, again := [] } ∧ isCall c = isValueCall o.op ∧ (∀ x, o.dst = some x → x < nt) ∧ (∀ x ∈ o.op.operands.toList, plainX P x = true) := by
  unfold rOper at h
  split at h
  · cases h
  · rename_i c hc
    split at h
    · rename_i hcond
      cases h
      simp only [Bool.and_eq_true, beq_iff_eq] at hcond
      obtain ⟨⟨h1, h2⟩, h3⟩ := hcond
      refine ⟨c, hc, rfl, h1, ?_, fun x hx => List.all_eq_true.1 h3 x hx⟩
      intro x hx
      rw [hx] at h2
      simpa using h2
    · cases h
theorem ops_of (hf : FR ι fr nt a.tmps) (hg : Globs P ι) (h : ∀ x ∈ o.op.operands.toList, plainX P x = true) : Ops ι o a fr := fun x hx => arg_ok hf hg (h x hx)
def NoRound (round : Rounder) : Prop := ∀ (l : Nat) (args : List Value) (s : St) (v : Value) (s' : St) (ι : Inj) (base : Nat) (w : World), Rel ι base s w → round l args s = some (v, s') → False
theorem oper_ok' {call : Caller} (hcall : GoodCall P call) {round : Rounder} (hround : NoRound round) {i : Nat} (hro : rOper P nt ops o i = some co) (hv : Ops ι o a fr) (hg : Globs P ι) (r : Rel ι base s w)
    (hid : co.op.cl = .n → id < s.next ∧ s.get id = none ∧ ι id = none) (h : (oneOp co.op).run call round fr s id = some (v, s')) : DoesOp P (fun x => x = id ∧ co.op.cl = .n) ι base s w o a v s' := by
  obtain ⟨c, h1, rfl, h2, h3, h4⟩ := rOper_eq hro
  cases hc : isValueCall o.op with
  | true => exact call_ok hcall h1 hc hv hg r (fun l args s v s' ι' w' r' h' => hround l args s v s' ι' base w' r' h') h _
  | false =>
    rw [hc] at h2
    simp only at h hid
    rw [oneOp_eq h2] at h
    have says := op_ok (id := id) h1 hv r h
    cases hcl : c.cl with
    | p =>
      obtain ⟨rfl, hok⟩ := says.q (by unfold isQ; rw [hcl])
      exact (hok.does r).op (rOp_nd h1)
    | l =>
      obtain ⟨rfl, hok⟩ := says.q (by unfold isQ; rw [hcl])
      exact (hok.does r).op (rOp_nd h1)
    | n =>
      obtain ⟨g1, g2, g3⟩ := hid hcl
      intro ro next Q hn
      exact (says.n hcl g1 g2 g3).op (rOp_nd h1) ro next Q fun κ v' w' e1 e2 => hn κ v' w' (e1.mono fun x hx => ⟨hx, rfl⟩) e2
    | w => exact (says.w_ hcl _).op (rOp_nd h1)
theorem oper_ok {call : Caller} (hcall : GoodCall P call) {round : Rounder} (hround : NoRound round) {i : Nat} (hro : rOper P nt ops o i = some co) (hf : FR ι fr nt a.tmps) (hg : Globs P ι) (r : Rel ι base s w)
    (hid : co.op.cl = .n → id < s.next ∧ s.get id = none ∧ ι id = none) (h : (oneOp co.op).run call round fr s id = some (v, s')) : DoesOp P (fun x => x = id ∧ co.op.cl = .n) ι base s w o a v s' := by
  obtain ⟨c, _, _, _, _, h4⟩ := rOper_eq hro
  exact oper_ok' hcall hround hro (ops_of hf hg h4) hg r hid h
theorem wanted_ok' {i : Nat} (hro : rOper P nt ops o i = some co) (hf : ∀ j want t, o.guard = some (j, want) → (ops[j]?).bind (·.dst) = some t → VR ι (orUndef (fr.get t)) (a.tmps.getD t Go.undef)) : Region.wanted o (yielded ops a.tmps) = (Option.rec true (fun g => wanted g fr) co.guard : Bool) := by
  obtain ⟨c, _, rfl, _⟩ := rOper_eq hro
  unfold Region.wanted
  cases hgd : o.guard with
  | none => rfl
  | some jw =>
    obtain ⟨j, want⟩ := jw
    show (yielded ops a.tmps j == some want) = wanted ((ops[j]?).bind (·.dst), want) fr
    unfold yielded wanted
    cases ht : (ops[j]?).bind (·.dst) with
    | none => rfl
    | some t =>
      have hval := hf j want t hgd ht
      rw [Array.getD_eq_getD_getElem?] at hval
      simp only [Option.bind_some, ob_some]
      cases hfr : fr.get t with
      | none =>
        rw [hfr] at hval
        simp only [ob_none]
        obtain ⟨m, hm, hl⟩ := VR.tupE (l := []) hval
        cases hl
        cases e : a.tmps[t]? with
        | none => rfl
        | some x => rw [e] at hm; simp only [Option.getD_some] at hm; subst hm; rfl
      | some v =>
        rw [hfr] at hval
        simp only [ob_some]
        cases hb : asBool v with
        | some b =>
          rw [asBool_eq hb] at hval
          have := hval.boolE
          cases e : a.tmps[t]? with
          | none => rw [e] at this; cases this
          | some x =>
            rw [e] at this
            simp only [Option.getD_some] at this
            subst this
            cases b <;> cases want <;> rfl
        | none =>
          cases e : a.tmps[t]? with
          | none => rfl
          | some x =>
            rw [e] at hval
            simp only [Option.getD_some] at hval
            have hval : VR ι v x := hval
            cases hval <;> first | rfl | (simp [asBool] at hb; done)
theorem wanted_ok {i : Nat} (hro : rOper P nt ops o i = some co) (hf : FR ι fr nt a.tmps) : Region.wanted o (yielded ops a.tmps) = (Option.rec true (fun g => wanted g fr) co.guard : Bool) :=
  wanted_ok' hro fun _ _ t _ _ => hf.val t
variable {call : Caller} {round : Rounder}
theorem runOps_cons (b : Nat) (l : List COper) (fr : Fr) (s : St) : runOps call round b (co :: l) fr s = stepOp call round b co (runOps call round b l) fr s := rfl
theorem stepOp_eq (b : Nat) (go : Fr → St → RF) (fr : Fr) (s : St) (h : co.again = []) :
    stepOp call round b co go fr s = if (Option.rec true (fun g => wanted g fr) co.guard : Bool) = true then (ob ((oneOp co.op).run call round fr s (b + co.ix)) fun r => go (putD fr co.dst r.1) r.2) else go (putD fr co.dst undef) s := by
  have hd : doOp call round b co go fr s = ob ((oneOp co.op).run call round fr s (b + co.ix)) fun r => go (putD fr co.dst r.1) r.2 := by
    unfold doOp
    rw [h]
    cases (oneOp co.op).run call round fr s (b + co.ix) <;> rfl
  unfold stepOp
  cases co.guard with
  | none => simp [hd]
  | some g =>
    show (Bool.rec (go (putD fr co.dst undef) s) (doOp call round b co go fr s) (wanted g fr) : RF) = _
    cases hw : wanted g fr
    · rw [if_neg (by simp [hw])]
    · rw [if_pos (by simp [hw])]
      exact hd
def mine (b n : Nat) : Nat → Prop := fun x => b ≤ x ∧ x < b + n
theorem Act.put_defers' (a : Act) (d : Option Tmp) (v : Value) : (a.put d v).defers = a.defers := by cases d <;> rfl
theorem ops_ok {ro : Option Nat} (hcall : GoodCall P call) (hround : NoRound round) {b n : Nat} {base : Nat} {ds : List Deferred} {Q : Exit → Act → World → Prop} : ∀ (suf : List Oper) (k : Nat), (∀ j, suf[j]? = ops[k + j]?) → ∀ (cs : List COper),
    (suf.zipIdx k).mapM (fun (o, i) => rOper P nt ops o i) = some cs → (∀ c ∈ cs, c.op.cl = .n → b + c.ix < b + n) →
    ∀ (ι : Inj) (fr fr' : Fr) (s s' : St) (w : World) (a : Act), FR ι fr nt a.tmps → Globs P ι → Rel ι base s w → a.defers = ds → b + n ≤ s.next → (∀ i, k ≤ i → i < n → s.get (b + i) = none ∧ ι (b + i) = none) →
    runOps call round b cs fr s = some (fr', s') →
    (∀ κ a' w', Ext (mine b n) ι base s w κ s' w' → FR κ fr' nt a'.tmps → a'.defers = ds → Q .normal a' w') → wpOpsIn (Wd ro) 0 P ops Q (List.range' k suf.length) a w := by
  intro suf
  induction suf with
  | nil =>
    intro k _ cs hcs _ ι fr fr' s s' w a hf hg r hds hb hid hrun hQ
    simp at hcs
    subst hcs
    cases hrun
    exact hQ ι a w (Ext.refl r) hf hds
  | cons o suf ih =>
    intro k hsuf cs hcs hn ι fr fr' s s' w a hf hg r hds hb hid hrun hQ
    rw [List.zipIdx_cons, List.mapM_cons] at hcs
    obtain ⟨co, hco, hcs⟩ := Option.bind_eq_some_iff.1 hcs
    obtain ⟨cs2, hcs2, hcs⟩ := Option.bind_eq_some_iff.1 hcs
    cases hcs
    have hsuf2 : ∀ j, suf[j]? = ops[k + 1 + j]? := by
      intro j
      have := hsuf (j + 1)
      rw [List.getElem?_cons_succ] at this
      rw [this]; congr 1; omega
    have hok : ops[k]? = some o := by have := hsuf 0; simpa using this.symm
    obtain ⟨c, _, hce, _, hdst, _⟩ := rOper_eq hco
    have hix : co.ix = k := by rw [hce]
    have hag : co.again = [] := by rw [hce]
    have hd : co.dst = o.dst := by rw [hce]
    rw [runOps_cons, stepOp_eq _ _ _ _ hag, ← wanted_ok hco hf, hd] at hrun
    rw [List.length_cons, List.range'_succ]
    show (match ops[k]? with
      | none => _
      | some o => if Region.wanted o (yielded ops a.tmps) then o.wpIn (Wd ro) 0 P a w (wpOpsIn (Wd ro) 0 P ops Q (List.range' (k + 1) suf.length)) Q else (∀ f, o.about P w a.eval = some f → (Wd ro).fn f) ∧ wpOpsIn (Wd ro) 0 P ops Q (List.range' (k + 1) suf.length) (a.put o.dst undef) w)
    rw [hok]
    simp only
    split at hrun
    · rename_i hw
      rw [if_pos hw]
      obtain ⟨⟨v, s1⟩, h1, h2⟩ := ob_eq.1 hrun
      simp only at h2
      rw [hix] at h1
      have hkn : co.op.cl = .n → k < n := fun h => by have := hn co (by simp) h; rw [hix] at this; omega
      refine oper_ok hcall hround hco hf hg r (fun h => ⟨by have := hkn h; omega, hid k (Nat.le_refl _) (hkn h)⟩) h1 ro _ _ ?_
      intro κ v' w' e1 e2
      refine ih (k + 1) hsuf2 cs2 hcs2 (fun c hc => hn c (by simp [hc])) κ _ fr' s1 s' w' (a.put o.dst v') ?_ (hg.mono e1.le) e1.rel (by rw [Act.put_defers', hds]) (Nat.le_trans hb e1.next) ?_ h2 ?_
      · exact (hf.mono e1.le).put hdst e2
      · intro i hi1 hi2
        obtain ⟨g1, g2⟩ := hid i (by omega) hi2
        obtain ⟨g3, g4⟩ := e1.gone (b + i) (by omega) (by rintro ⟨hh, _⟩; omega) g1
        exact ⟨g3, g4 g2⟩
      · intro μ a' w'' e3 e4 e5
        exact hQ μ a' w'' ((e1.mono (by rintro x ⟨rfl, hcl⟩; have := hkn hcl; exact ⟨by omega, by omega⟩)).trans e3) e4 e5
    · rename_i hw
      rw [if_neg hw]
      refine ⟨fun _ _ => trivial, ?_⟩
      refine ih (k + 1) hsuf2 cs2 hcs2 (fun c hc => hn c (by simp [hc])) ι _ fr' s s' w (a.put o.dst undef) ?_ hg r (by rw [Act.put_defers', hds]) hb (fun i hi1 hi2 => hid i (by omega) hi2) hrun hQ
      exact hf.put hdst .undef
theorem Ext.skipped {κ : Inj} {w' : World} {n : Nat} (h : Ext (mine s.next n) ι base (s.skip n) w κ s' w') : Ext none_ ι base s w κ s' w' := by
  rw [St.skip_eq] at h
  refine ⟨h.le, h.rel, by have := h.next; simp at this; omega, fun a ha _ g1 => h.gone a (by simp; omega) (by rintro ⟨h1, _⟩; omega) g1, h.keep, h.img, h.size, h.os, h.tape, h.output⟩
theorem mapM_ix {l : List Oper} {ys : List COper} (h : l.zipIdx.mapM (fun (o, i) => rOper P nt ops o i) = some ys) : ys.length = l.length ∧ ∀ c ∈ ys, c.ix < l.length := by
  have hlen : ∀ (xs : List (Oper × Nat)) (ys : List COper), xs.mapM (fun (o, i) => rOper P nt ops o i) = some ys → ys.length = xs.length ∧ ∀ c ∈ ys, ∃ x ∈ xs, c.ix = x.2 := by
    intro xs
    induction xs with
    | nil => intro ys h; simp at h; subst h; simp
    | cons x xs ih =>
      intro ys h
      rw [List.mapM_cons] at h
      obtain ⟨y, hy, h⟩ := Option.bind_eq_some_iff.1 h
      obtain ⟨ys2, hys, h⟩ := Option.bind_eq_some_iff.1 h
      cases h
      obtain ⟨h1, h2⟩ := ih ys2 hys
      refine ⟨by simp [h1], ?_⟩
      intro c hc
      rcases List.mem_cons.1 hc with rfl | hc
      · obtain ⟨_, _, e, _⟩ := rOper_eq hy
        exact ⟨x, by simp, by rw [e]⟩
      · obtain ⟨x2, hx2, e⟩ := h2 c hc
        exact ⟨x2, by simp [hx2], e⟩
  obtain ⟨h1, h2⟩ := hlen _ _ h
  rw [List.length_zipIdx] at h1
  refine ⟨h1, fun c hc => ?_⟩
  obtain ⟨x, hx, e⟩ := h2 c hc
  have := List.snd_lt_of_mem_zipIdx hx
  omega
theorem region_ok {ro : Option Nat} (hcall : GoodCall P call) (hround : NoRound round) {rid : Nat} {Q : Exit → Act → World → Prop} {news : Nat} {cs : List COper} (hr : rRegion P nt ops false = .region news cs) {fr' : Fr}
    (hf : FR ι fr nt a.tmps) (hg : Globs P ι) (r : Rel ι base s w) (h : runOps call round s.next cs fr (s.skip news) = some (fr', s'))
    (hQ : ∀ κ a' w', Ext none_ ι base s w κ s' w' → FR κ fr' nt a'.tmps → a'.defers = a.defers → Q .normal a' w') : (Code.region rid ops false).wpIn (Wd ro) 0 P Q a w := by
  unfold rRegion at hr
  split at hr
  · rename_i l hl
    simp only [Bool.false_eq_true, if_false] at hr
    split at hr
    · cases hr
    cases hr
    refine wpIn_region ?_
    have hlen : ∀ (xs : List (Oper × Nat)) (ys : List COper), xs.mapM (fun (o, i) => rOper P nt ops o i) = some ys → ys.length = xs.length ∧ ∀ c ∈ ys, ∃ x ∈ xs, c.ix = x.2 := by
      intro xs
      induction xs with
      | nil => intro ys h; simp at h; subst h; simp
      | cons x xs ih =>
        intro ys h
        rw [List.mapM_cons] at h
        obtain ⟨y, hy, h⟩ := Option.bind_eq_some_iff.1 h
        obtain ⟨ys2, hys, h⟩ := Option.bind_eq_some_iff.1 h
        cases h
        obtain ⟨h1, h2⟩ := ih ys2 hys
        refine ⟨by simp [h1], ?_⟩
        intro c hc
        rcases List.mem_cons.1 hc with rfl | hc
        · obtain ⟨_, _, e, _⟩ := rOper_eq hy
          exact ⟨x, by simp, by rw [e]⟩
        · obtain ⟨x2, hx2, e⟩ := h2 c hc
          exact ⟨x2, by simp [hx2], e⟩
    obtain ⟨h1, h2⟩ := hlen _ _ hl
    rw [List.length_zipIdx, Array.length_toList] at h1
    generalize hnn : (if (cs.any fun o => o.op.cl == .n || (match o.op with | .rangeM _ => true | _ => false)) = true then cs.length else 0) = nn at h
    rw [List.range_eq_range']
    have := ops_ok (ro := ro) (b := s.next) (n := nn) (base := base) (ds := a.defers) (Q := Q) hcall hround ops.toList 0 (fun j => by rw [Array.getElem?_toList]; simp) cs hl ?_ ι fr fr' _ s' w a hf hg
      (Ext.bump (S := none_) r nn).rel rfl (by simp) ?_ (by rw [← St.skip_eq]; exact h) ?_
    · rw [Array.length_toList] at this; exact this
    · intro c hc hcl
      have hany : (cs.any fun o => o.op.cl == .n || (match o.op with | .rangeM _ => true | _ => false)) = true := List.any_eq_true.2 ⟨c, hc, by rw [hcl]; rfl⟩
      rw [if_pos hany] at hnn
      obtain ⟨x, hx, e⟩ := h2 c hc
      have := List.snd_lt_of_mem_zipIdx hx
      have h3 : cs.length = ops.toList.length := h1
      omega
    · intro i _ hi
      have := r.next (s.next + i) (by omega)
      exact this
    · intro κ a' w' e1 e2 e3
      rw [← St.skip_eq] at e1
      exact hQ κ a' w' e1.skipped e2 e3
  · cases hr
end
end Go.Ev

namespace Go.Ev
open Go (Sem)
section
variable {α β : Type}
theorem bindM_cons (k : α → Option (List β)) (x : α) (l : List α) : bindM k (x :: l) = ob (k x) fun a => om (bindM k l) fun b => appL a b := rfl
theorem bindM_eq {k : α → Option (List β)} : ∀ {l : List α} {r : List β}, bindM k l = some r → ∀ x ∈ l, ∃ a, k x = some a ∧ ∀ y ∈ a, y ∈ r := by
  intro l
  induction l with
  | nil => intro r _ x hx; simp at hx
  | cons x l ih =>
    intro r h
    rw [bindM_cons] at h
    obtain ⟨a, ha, h2⟩ := ob_eq.1 h
    obtain ⟨b, hb, h3⟩ := om_eq.1 h2
    subst h3
    intro z hz
    rcases List.mem_cons.1 hz with rfl | hz
    · exact ⟨a, ha, fun y hy => by rw [appL_eq]; exact List.mem_append_left _ hy⟩
    · obtain ⟨c, hc, hc2⟩ := ih hb z hz
      exact ⟨c, hc, fun y hy => by rw [appL_eq]; exact List.mem_append_right _ (hc2 y hy)⟩
theorem bindL_eq {k : α → Option (List β)} {l : List α} {r : List β} (h : bindL l k = some r) : ∀ x ∈ l, ∃ a, k x = some a ∧ ∀ y ∈ a, y ∈ r := by
  cases l with
  | nil => intro x hx; simp at hx
  | cons x l => cases l with
    | nil =>
      intro z hz
      obtain rfl : z = x := by simpa using hz
      exact ⟨r, h, fun y hy => hy⟩
    | cons y l => exact bindM_eq h
theorem oneL_eq {r : Option (List α)} {x : α} (h : oneL r = some x) : r = some [x] := by
  obtain ⟨l, hl, h2⟩ := ob_eq.1 h
  cases l with
  | nil => cases h2
  | cons y l => cases l with
    | nil => cases h2; exact hl
    | cons z l => cases h2
theorem optL_mem {f : α → Option β} : ∀ {l : List α} {m : List β}, optL f l = some m → ∀ x ∈ l, ∃ y, y ∈ m ∧ f x = some y := by
  intro l
  induction l with
  | nil => intro m _ x hx; simp at hx
  | cons x l ih =>
    intro m h
    rw [optL_cons] at h
    obtain ⟨y, hy, h2⟩ := ob_eq.1 h
    obtain ⟨m2, hm, h3⟩ := om_eq.1 h2
    subst h3
    intro z hz
    rcases List.mem_cons.1 hz with rfl | hz
    · exact ⟨y, by simp, hy⟩
    · obtain ⟨u, hu, hu2⟩ := ih hm z hz
      exact ⟨u, by simp [hu], hu2⟩
end
def GoodCallL (P : Program) (call : CallerL) : Prop :=
  ∀ (ι : Inj) (base : Nat) (s : St) (w : World) (f : FuncId) (args args' : List Value) (l : List (Value × St)), Globs P ι → Rel ι base s w → LR ι args args' → call f args s = some l →
    CallDo P f ⟨args'⟩ w fun v' w' => ∃ out ∈ l, ∃ κ, Ext none_ ι base s w κ out.2 w' ∧ VR κ out.1 v'
theorem CallDo.mono {P : Program} {f : FuncId} {args : Array Value} {w : World} {R R' : Value → World → Prop} (h : CallDo P f args w R) (hh : ∀ v w', R v w' → R' v w') : CallDo P f args w R' := by
  rcases h with ⟨v, w', h1, h2⟩ | ⟨h1, h2⟩
  · exact .inl ⟨v, w', h1, hh _ _ h2⟩
  · refine .inr ⟨h1, h2.mono fun e w' he => ?_⟩
    cases e with
    | returned v => exact hh _ _ he
    | _ => exact he.elim
theorem GoodCallL.one {P : Program} {call : CallerL} (h : GoodCallL P call) : GoodCall P (one1 call) := by
  intro ι base s w f args args' v s' hg r ha hc
  refine (h ι base s w f args args' [(v, s')] hg r ha (oneL_eq hc)).mono fun v' w' ⟨out, hm, κ, e1, e2⟩ => ?_
  obtain rfl : out = (v, s') := by simpa using hm
  exact ⟨κ, e1, e2⟩
def RoundDo (P : Program) (l : Nat) (args : Array Value) (w : World) (R : Value → World → Prop) : Prop :=
  ∃ f tmps assign body, (Instr.yield l args).run P w = .ok (.round l f tmps assign body) w ∧ RoundIn Fence.wide 0 P l f tmps assign body w fun | .returned v, w' => R v w' | _, _ => False
def GoodRoundL (P : Program) (round : RounderL) : Prop :=
  ∀ (ι : Inj) (base : Nat) (s : St) (w : World) (l : Nat) (B : Blk) (args args' : List Value) (outs : List (Value × St)), Globs P ι → Rel ι base s w → ι l = some B → LR ι args args' → round l args s = some outs →
    RoundDo P B.b ⟨args'⟩ w fun v' w' => ∃ out ∈ outs, ∃ κ, Ext none_ ι base s w κ out.2 w' ∧ VR κ out.1 v'
theorem noRoundL_good {P : Program} : GoodRoundL P noRoundL := fun _ _ _ _ _ _ _ _ _ _ _ _ _ h => by cases h
def DoesOpL (P : Program) (S : Nat → Prop) (ι : Inj) (base : Nat) (s : St) (w : World) (o : Oper) (a : Act) (l : List (Value × St)) : Prop :=
  ∀ (ro : Option Nat) (next : Act → World → Prop) (Q : Exit → Act → World → Prop), (∀ out ∈ l, ∀ κ v' w', Ext S ι base s w κ out.2 w' → VR κ out.1 v' → next (a.put o.dst v') w') → o.wpIn (Wd ro) 0 P a w next Q
section
variable {P : Program} {ι : Inj} {w : World} {base : Nat} {s : St} {o : Oper} {a : Act} {fr : Fr} {id nt : Nat} {v : Value} {s' : St} {co : COper} {ops : Array Oper} {c : Cop}
theorem call_okL {call : CallerL} (hcall : GoodCallL P call) {round : RounderL} (hround : GoodRoundL P round) (hr : rOp P o.op = some c) (hc : isValueCall o.op = true) (hv : Ops ι o a fr) (hg : Globs P ι) (r : Rel ι base s w) {l : List (Value × St)}
    (h : (oneOpL c).run call round fr s id = some l) (S : Nat → Prop) : DoesOpL P S ι base s w o a l := by
  cases ho : o.op with
  | call cl =>
    cases hcl : cl.callee with
    | builtin b =>
      rw [ho] at hc
      unfold isValueCall at hc
      simp only [hcl] at hc
      cases hc
    | value f =>
      have h1 : ∀ x ∈ cl.args.toList, VR ι ((rArg x).ev fr) (a.eval x) := fun x hx => hv x (by
        rw [ho]; simp only [Op.operands, Call.operands, hcl]; simp [hx] <;> first | exact .inr (by simpa using hx) | exact .inl (by simpa using hx))
      have h2 : VR ι ((rArg f).ev fr) (a.eval f) := hv f (by rw [ho]; simp [Op.operands, Call.operands, hcl])
      have hl := lr_ops h1
      have hexec : (execOp a.eval o).run P w = (do let d ← Deferred.ofValue (a.eval f) (cl.args.map a.eval); invoke d.target d.args : Sem Next).run P w := by
        simp only [execOp, ho, resolve, hcl]
      intro ro next Q hn
      refine ⟨fun _ _ => trivial, ?_⟩
      rw [Oper.semAt_eq _ _ _ (by rw [ho]; intro c hc'; cases hc'), hexec]
      have fin : ∀ (g : FuncId) (args args' : List Value), LR ι args args' → call g args s = some l → o.uponIn (Wd ro) 0 P a next Q ((callFunc g ⟨args'⟩).run P w) := by
        intro g args args' hla hcg
        refine (hcall ι base s w g args args' l hg r hla hcg).upon ro next Q ?_
        intro v' w' ⟨out, hm, κ, e1, e2⟩
        exact hn out hm κ v' w' (e1.mono fun _ h => h.elim) e2
      rw [ho] at hr
      unfold rOp at hr
      simp only [hcl] at hr
      split at hr
      · -- a function by its name
        rename_i g hcl2
        cases hcl2
        cases hr
        have h : call g (evL fr (cl.args.toList.map rArg)) s = some l := h
        have := fin g _ _ hl h
        have e1 : (⟨cl.args.toList.map a.eval⟩ : Array Value) = cl.args.map a.eval := by apply Array.ext'; simp
        rw [e1] at this
        simpa [Deferred.ofValue, Act.eval, invoke, Result.andThen] using this
      · -- a value
        rename_i f1 _ hcl2
        cases hcl2
        cases hr
        have h : callVL call round ((rArg f).ev fr) (evL fr (cl.args.toList.map rArg)) s = some l := h
        obtain ⟨⟨fn, first, capt⟩, hf, h⟩ := ob_eq.1 h
        rw [asFunc_eq hf] at h2
        cases fn with
        | func g =>
          simp only at h2
          have h : call g (appL first (appL (evL fr (cl.args.toList.map rArg)) capt)) s = some l := h
          rw [appL_eq, appL_eq] at h
          generalize hF : a.eval f = F at h2
          cases h2 with
          | func hfn ha hav hcc hcv =>
            cases hfn
            have := fin g _ _ ((LR.of ha hav).append (hl.append (LR.of hcc hcv))) h
            have e1 : ∀ (x y : List Value), (⟨x ++ (cl.args.toList.map a.eval ++ y)⟩ : Array Value) = (⟨x⟩ ++ cl.args.map a.eval) ++ ⟨y⟩ := by intro x y; apply Array.ext'; simp
            rw [e1] at this
            simpa [Deferred.ofValue, invoke, Result.andThen] using this
        | yield lp =>
          have h : round lp (appL first (evL fr (cl.args.toList.map rArg))) s = some l := h
          rw [appL_eq] at h
          simp only at h2
          generalize hF : a.eval f = F at h2
          cases h2 with
          | func hfn ha hav hcc hcv =>
            obtain ⟨B, hB, rfl⟩ := hfn
            obtain ⟨gf, tmps, asg, bd, g1, g2⟩ := hround ι base s w lp B _ _ l hg r hB ((LR.of ha hav).append hl) h
            have e1 : ∀ (x : List Value), (⟨x ++ cl.args.toList.map a.eval⟩ : Array Value) = ⟨x⟩ ++ cl.args.map a.eval := by intro x; apply Array.ext'; simp
            rw [e1] at g1
            have g3 : ∀ (ca : Array Value) (fi : List Value), (Instr.yield B.b (⟨fi⟩ ++ cl.args.map a.eval)).run P w = .ok (.round B.b gf tmps asg bd) w → (do let d ← Deferred.ofValue (.func (.yield B.b) ⟨fi⟩ ca) (cl.args.map a.eval); invoke d.target d.args : Sem Next).run P w = .ok (.round B.b gf tmps asg bd) w := by
              intro ca fi hh
              simpa [Deferred.ofValue, invoke, Result.andThen] using hh
            rw [g3 _ _ g1]
            refine ⟨fun h => (by cases h), ?_⟩
            show RoundIn Fence.wide 0 P _ _ _ _ _ _ _
            refine g2.mono fun e w'' he => ?_
            cases e with
            | returned v =>
              obtain ⟨out, hm, κ, e1, e2⟩ := he
              exact hn out hm κ v w'' (e1.mono fun _ h => h.elim) e2
            | panicked _ => exact he.elim
            | outgrown => exact he.elim
        | _ => cases h
      · cases hr
      · rename_i hh; cases hh
    | invoke x m =>
      rw [ho] at hr
      unfold rOp at hr
      simp only [hcl] at hr
      cases hr
  | _ =>
    rw [ho] at hc
    cases hc
theorem oneOpL_eq {c : Cop} (h : isCall c = false) (call : CallerL) (round : RounderL) (fr : Fr) (s : St) (id : Nat) : (oneOpL c).run call round fr s id = om ((cop c).run fr s id) fun r => [r] := by
  cases c <;> first | rfl | cases h
theorem noRound_no : NoRound noRound := fun l args s v s' ι base w r h => by cases h
theorem oper_okL {call : CallerL} (hcall : GoodCallL P call) {round : RounderL} (hround : GoodRoundL P round) {i : Nat} (hro : rOper P nt ops o i = some co) (hf : FR ι fr nt a.tmps) (hg : Globs P ι) (r : Rel ι base s w)
    (hid : co.op.cl = .n → id < s.next ∧ s.get id = none ∧ ι id = none) {l : List (Value × St)} (h : (oneOpL co.op).run call round fr s id = some l) : DoesOpL P (fun x => x = id ∧ co.op.cl = .n) ι base s w o a l := by
  obtain ⟨c, h1, h1', h2, h3, h4⟩ := rOper_eq hro
  cases hc : isValueCall o.op with
  | true =>
    have e : co.op = c := by rw [h1']
    rw [e] at h
    exact call_okL hcall hround h1 hc (ops_of hf hg h4) hg r h _
  | false =>
    have e : co.op = c := by rw [h1']
    have hnc : isCall co.op = false := by rw [e, h2, hc]
    rw [oneOpL_eq hnc] at h
    obtain ⟨⟨v, s'⟩, hv, hl⟩ := om_eq.1 h
    subst hl
    have := oper_ok (call := one1 call) hcall.one noRound_no hro hf hg r hid (by rw [oneOp_eq hnc]; exact hv)
    intro ro next Q hn
    exact this ro next Q fun κ v' w' e1 e2 => hn (v, s') (by simp) κ v' w' e1 e2
variable {call : CallerL} {round : RounderL}
theorem runOpsL_cons (b : Nat) (l : List COper) (fr : Fr) (s : St) : runOpsL call round b (co :: l) fr s = stepOpL call round b co (runOpsL call round b l) fr s := rfl
theorem stepOpL_eq (b : Nat) (go : Fr → St → RFL) (fr : Fr) (s : St) :
    stepOpL call round b co go fr s = if (Option.rec true (fun g => wanted g fr) co.guard : Bool) = true then (ob ((oneOpL co.op).run call round fr s (b + co.ix)) fun l => bindL l fun r => go (putD fr co.dst r.1) r.2) else go (putD fr co.dst undef) s := by
  unfold stepOpL
  cases co.guard with
  | none => simp [doOpL]
  | some g =>
    show (Bool.rec (go (putD fr co.dst undef) s) (doOpL call round b co go fr s) (wanted g fr) : RFL) = _
    cases hw : wanted g fr
    · rw [if_neg (by simp [hw])]
    · rw [if_pos (by simp [hw])]; rfl
theorem ops_okL {ro : Option Nat} (hcall : GoodCallL P call) (hround : GoodRoundL P round) {b n : Nat} {base : Nat} {ds : List Deferred} {Q : Exit → Act → World → Prop} {rest : List Nat} : ∀ (suf : List Oper) (k : Nat), (∀ j, j < suf.length → suf[j]? = ops[k + j]?) → ∀ (cs : List COper),
    (suf.zipIdx k).mapM (fun (o, i) => rOper P nt ops o i) = some cs → (∀ c ∈ cs, c.op.cl = .n → b + c.ix < b + n) →
    ∀ (ι : Inj) (fr : Fr) (s : St) (w : World) (a : Act) (l : List (Fr × St)), FR ι fr nt a.tmps → Globs P ι → Rel ι base s w → a.defers = ds → b + n ≤ s.next → (∀ i, k ≤ i → i < n → s.get (b + i) = none ∧ ι (b + i) = none) →
    runOpsL call round b cs fr s = some l →
    (∀ out ∈ l, ∀ κ a' w', Ext (mine b n) ι base s w κ out.2 w' → FR κ out.1 nt a'.tmps → a'.defers = ds → wpOpsIn (Wd ro) 0 P ops Q rest a' w') → wpOpsIn (Wd ro) 0 P ops Q (List.range' k suf.length ++ rest) a w := by
  intro suf
  induction suf with
  | nil =>
    intro k _ cs hcs _ ι fr s w a l hf hg r hds hb hid hrun hQ
    simp at hcs
    subst hcs
    cases hrun
    exact hQ (fr, s) (by simp) ι a w (Ext.refl r) hf hds
  | cons o suf ih =>
    intro k hsuf cs hcs hn ι fr s w a l hf hg r hds hb hid hrun hQ
    rw [List.zipIdx_cons, List.mapM_cons] at hcs
    obtain ⟨co, hco, hcs⟩ := Option.bind_eq_some_iff.1 hcs
    obtain ⟨cs2, hcs2, hcs⟩ := Option.bind_eq_some_iff.1 hcs
    cases hcs
    have hsuf2 : ∀ j, j < suf.length → suf[j]? = ops[k + 1 + j]? := by
      intro j hj
      have := hsuf (j + 1) (by simp; omega)
      rw [List.getElem?_cons_succ] at this
      rw [this]; congr 1; omega
    have hok : ops[k]? = some o := by have := hsuf 0 (by simp); simpa using this.symm
    obtain ⟨c, _, hce, _, hdst, _⟩ := rOper_eq hco
    have hix : co.ix = k := by rw [hce]
    have hd : co.dst = o.dst := by rw [hce]
    rw [runOpsL_cons, stepOpL_eq, ← wanted_ok hco hf, hd] at hrun
    rw [List.length_cons, List.range'_succ]
    show (match ops[k]? with
      | none => _
      | some o => if Region.wanted o (yielded ops a.tmps) then o.wpIn (Wd ro) 0 P a w (wpOpsIn (Wd ro) 0 P ops Q (List.range' (k + 1) suf.length ++ rest)) Q else (∀ f, o.about P w a.eval = some f → (Wd ro).fn f) ∧ wpOpsIn (Wd ro) 0 P ops Q (List.range' (k + 1) suf.length ++ rest) (a.put o.dst undef) w)
    rw [hok]
    simp only
    split at hrun
    · rename_i hw
      rw [if_pos hw]
      obtain ⟨lo, h1, h2⟩ := ob_eq.1 hrun
      rw [hix] at h1
      have hkn : co.op.cl = .n → k < n := fun h => by have := hn co (by simp) h; rw [hix] at this; omega
      refine oper_okL hcall hround hco hf hg r (fun h => ⟨by have := hkn h; omega, hid k (Nat.le_refl _) (hkn h)⟩) h1 ro _ _ ?_
      intro out hout κ v' w' e1 e2
      obtain ⟨l2, h3, h4⟩ := bindL_eq h2 out hout
      refine ih (k + 1) hsuf2 cs2 hcs2 (fun c hc => hn c (by simp [hc])) κ _ out.2 w' (a.put o.dst v') l2 ?_ (hg.mono e1.le) e1.rel (by rw [Act.put_defers', hds]) (Nat.le_trans hb e1.next) ?_ h3 ?_
      · exact (hf.mono e1.le).put hdst e2
      · intro i hi1 hi2
        obtain ⟨g1, g2⟩ := hid i (by omega) hi2
        obtain ⟨g3, g4⟩ := e1.gone (b + i) (by omega) (by rintro ⟨hh, _⟩; omega) g1
        exact ⟨g3, g4 g2⟩
      · intro out2 hout2 μ a' w'' e3 e4 e5
        exact hQ out2 (h4 _ hout2) μ a' w'' ((e1.mono (by rintro x ⟨rfl, hcl⟩; have := hkn hcl; exact ⟨by omega, by omega⟩)).trans e3) e4 e5
    · rename_i hw
      rw [if_neg hw]
      refine ⟨fun _ _ => trivial, ?_⟩
      refine ih (k + 1) hsuf2 cs2 hcs2 (fun c hc => hn c (by simp [hc])) ι _ s w (a.put o.dst undef) l ?_ hg r (by rw [Act.put_defers', hds]) hb (fun i hi1 hi2 => hid i (by omega) hi2) hrun hQ
      exact hf.put hdst .undef
theorem ops_one {ro : Option Nat} (hcall : GoodCallL P call) {b n : Nat} {base : Nat} {ds : List Deferred} {Q : Exit → Act → World → Prop} {rest : List Nat} : ∀ (suf : List Oper) (k : Nat), (∀ j, j < suf.length → suf[j]? = ops[k + j]?) → ∀ (cs : List COper),
    (suf.zipIdx k).mapM (fun (o, i) => rOper P nt ops o i) = some cs → (∀ c ∈ cs, c.op.cl = .n → b + c.ix < b + n) →
    ∀ (ι : Inj) (fr fr' : Fr) (s s' : St) (w : World) (a : Act), FR ι fr nt a.tmps → Globs P ι → Rel ι base s w → a.defers = ds → b + n ≤ s.next → (∀ i, k ≤ i → i < n → s.get (b + i) = none ∧ ι (b + i) = none) →
    runOps (one1 call) noRound b cs fr s = some (fr', s') →
    (∀ κ a' w', Ext (mine b n) ι base s w κ s' w' → FR κ fr' nt a'.tmps → a'.defers = ds → wpOpsIn (Wd ro) 0 P ops Q rest a' w') → wpOpsIn (Wd ro) 0 P ops Q (List.range' k suf.length ++ rest) a w := by
  intro suf k hsuf cs hcs hn ι fr fr' s s' w a hf hg r hds hb hid hrun hQ
  refine ops_okL (round := noRoundL) hcall noRoundL_good suf k hsuf cs hcs hn ι fr s w a [(fr', s')] hf hg r hds hb hid ?_ (fun out hout κ a' w' e1 e2 e3 => by
    obtain rfl : out = (fr', s') := by simpa using hout
    exact hQ κ a' w' e1 e2 e3)
  clear hQ hid hb hds r hg hf hn hsuf w a ι ds
  revert k cs fr s
  induction suf with
  | nil => intro k cs hcs fr s hrun; simp at hcs; subst hcs; cases hrun; rfl
  | cons o suf ih =>
    intro k cs hcs fr s hrun
    rw [List.zipIdx_cons, List.mapM_cons] at hcs
    obtain ⟨co, hco, hcs⟩ := Option.bind_eq_some_iff.1 hcs
    obtain ⟨cs2, hcs2, hcs⟩ := Option.bind_eq_some_iff.1 hcs
    cases hcs
    obtain ⟨c, _, hce, _⟩ := rOper_eq hco
    have hag : co.again = [] := by rw [hce]
    rw [runOps_cons, stepOp_eq _ _ _ _ hag] at hrun
    rw [runOpsL_cons, stepOpL_eq]
    split at hrun
    · rename_i hw
      rw [if_pos hw]
      obtain ⟨⟨v, s1⟩, h1, h2⟩ := ob_eq.1 hrun
      have hone : (oneOpL co.op).run call noRoundL fr s (b + co.ix) = some [(v, s1)] := by
        cases hc : isCall co.op with
        | false =>
          rw [oneOp_eq hc] at h1
          rw [oneOpL_eq hc, h1]; rfl
        | true =>
          cases hop : co.op <;> rw [hop] at hc h1 <;> first | (cases hc; done) | skip
          · exact oneL_eq h1
          · rename_i f args
            obtain ⟨p, hp, h3⟩ := ob_eq.1 (show callV (one1 call) noRound (f.ev fr) (evL fr args) s = some (v, s1) from h1)
            show callVL call noRoundL (f.ev fr) (evL fr args) s = some [(v, s1)]
            unfold callVL
            rw [hp, ob_some]
            cases hfn : fnId p.1 with
            | none =>
              rw [hfn] at h3
              obtain ⟨q, hq, h4⟩ := ob_eq.1 h3
              cases h4
            | some g =>
              rw [hfn] at h3
              exact oneL_eq h3
      rw [hone, ob_some]
      exact ih (k + 1) cs2 hcs2 _ _ h2
    · rename_i hw
      rw [if_neg hw]
      exact ih (k + 1) cs2 hcs2 _ _ hrun
theorem region_okL {ro : Option Nat} (hcall : GoodCallL P call) (hround : GoodRoundL P round) {rid : Nat} {Q : Exit → Act → World → Prop} {news : Nat} {cs : List COper} (hr : rRegion P nt ops false = .many news cs) {l : List (Fr × St)}
    (hf : FR ι fr nt a.tmps) (hg : Globs P ι) (r : Rel ι base s w) (h : runOpsL call round s.next cs fr (s.skip news) = some l)
    (hQ : ∀ out ∈ l, ∀ κ a' w', Ext none_ ι base s w κ out.2 w' → FR κ out.1 nt a'.tmps → a'.defers = a.defers → Q .normal a' w') : (Code.region rid ops false).wpIn (Wd ro) 0 P Q a w := by
  unfold rRegion at hr
  split at hr
  · rename_i l0 hl
    simp only [Bool.false_eq_true, if_false] at hr
    split at hr
    · cases hr
      refine wpIn_region ?_
      obtain ⟨h1, h2⟩ := mapM_ix hl
      have hsz := Array.length_toList (xs := ops)
      generalize hnn : (if (cs.any fun o => o.op.cl == .n || (match o.op with | .rangeM _ => true | _ => false)) = true then cs.length else 0) = nn at h
      have := ops_okL (ro := ro) (b := s.next) (n := nn) (base := base) (ds := a.defers) (Q := Q) (rest := []) hcall hround ops.toList 0 (fun j _ => by rw [Array.getElem?_toList]; simp) cs hl ?_ ι fr _ w a l hf hg
        (Ext.bump (S := none_) r nn).rel rfl (by simp) ?_ (by rw [← St.skip_eq]; exact h) ?_
      · rw [List.append_nil, Array.length_toList, ← List.range_eq_range'] at this; exact this
      · intro c hc hcl
        have hany : (cs.any fun o => o.op.cl == .n || (match o.op with | .rangeM _ => true | _ => false)) = true := List.any_eq_true.2 ⟨c, hc, by rw [hcl]; rfl⟩
        rw [if_pos hany] at hnn
        have := h2 c hc
        omega
      · intro i _ hi
        have := r.next (s.next + i) (by omega)
        exact this
      · intro out hout κ a' w' e1 e2 e3
        rw [← St.skip_eq] at e1
        exact hQ out hout κ a' w' e1.skipped e2 e3
    · cases hr
  · cases hr
end
end Go.Ev

namespace Go.Ev
theorem addrEq_eq {a b : Addr} (h : addrEq a b = true) : a = b := by
  unfold addrEq at h
  simp only [Bool.and_eq_true, Nat.beq_eq, Option.isNone_iff_eq_none] at h
  obtain ⟨⟨⟨h1, h2⟩, h3⟩, h4⟩ := h
  cases a; cases b; simp_all
theorem oAddrEq_eq {a b : Option Addr} (h : oAddrEq a b = true) : a = b := by
  cases a with
  | none => cases b with
    | none => rfl
    | some b => cases h
  | some a => cases b with
    | none => cases h
    | some b => rw [addrEq_eq (show addrEq a b = true from h)]
theorem sameV_eq {x y : Value} (h : sameV x y = true) : x = y := by
  cases x <;> cases y <;> simp only [sameV] at h <;> try (cases h; done)
  all_goals try rfl
  · simpa using h
  · simp only [Bool.and_eq_true, kEq_eq, iEq_eq, decide_eq_true_eq] at h
    rw [h.1, h.2]
  · rw [bytesEq_eq, decide_eq_true_eq] at h
    congr 1
    apply ByteArray.ext
    apply Array.ext'
    exact h
  · rw [oAddrEq_eq h]
  · simp only [Bool.and_eq_true, Nat.beq_eq] at h
    rw [oAddrEq_eq h.1.1, h.1.2, h.2]
  · rename_i a b
    cases a <;> cases b <;> simp_all
theorem sameL_eq : ∀ {x y : List Value}, sameL x y = true → x = y := by
  intro x
  induction x with
  | nil => intro y h; cases y with
    | nil => rfl
    | cons _ _ => cases h
  | cons a x ih => intro y h; cases y with
    | nil => cases h
    | cons b y =>
      have h : (sameV a b && sameL x y) = true := h
      rw [Bool.and_eq_true] at h
      rw [sameV_eq h.1, ih h.2]
theorem same_eq {x y : Value} (h : same x y = true) : x = y := by
  cases x <;> first
    | (exact sameV_eq h)
    | skip
  all_goals
    cases y <;> first
      | (cases h; done)
      | (rename_i a b
         have h : sameL a.toList b.toList = true := h
         rw [Array.ext' (sameL_eq h)])
end Go.Ev

namespace Go.Ev
def FnL (π : Nat → Nat) (n : Nat) (f f' : Fn) : Prop := match f with
  | .func g => f' = .func g
  | .yield l => l < n ∧ f' = .yield (π l)
  | _ => False
inductive VL (π : Nat → Nat) (n : Nat) : Value → Value → Prop
  | bool (b : Bool) : VL π n (.bool b) (.bool b)
  | int (k : IntKind) (i : Int) : VL π n (.int k i) (.int k i)
  | string (b : ByteArray) : VL π n (.string b) (.string b)
  | ptrN : VL π n (.pointer none) (.pointer none)
  | ptr {b o : Nat} (h : b < n) : VL π n (.pointer (some ⟨b, o, none⟩)) (.pointer (some ⟨π b, o, none⟩))
  | slN : VL π n (.slice none 0 0) (.slice none 0 0)
  | sl {b o k c : Nat} (h : b < n) : VL π n (.slice (some ⟨b, o, none⟩) k c) (.slice (some ⟨π b, o, none⟩) k c)
  | mapN : VL π n (.map none) (.map none)
  | map {r : Nat} (h : r < n) : VL π n (.map (some r)) (.map (some (π r)))
  | nilF : VL π n .nilFunc .nilFunc
  | nilI : VL π n .nilIface .nilIface
  | iface (t : TypeId) {v v' : Value} (h : VL π n v v') : VL π n (.iface t v) (.iface t v')
  | func {f f' : Fn} {a a' c c' : List Value} (hf : FnL π n f f') (ha : a.length = a'.length) (hav : ∀ (i : Nat) (x y : Value), a[i]? = some x → a'[i]? = some y → VL π n x y)
      (hc : c.length = c'.length) (hcv : ∀ (i : Nat) (x y : Value), c[i]? = some x → c'[i]? = some y → VL π n x y) : VL π n (.func f ⟨a⟩ ⟨c⟩) (.func f' ⟨a'⟩ ⟨c'⟩)
  | agg {a a' : List Value} (ha : a.length = a'.length) (hav : ∀ (i : Nat) (x y : Value), a[i]? = some x → a'[i]? = some y → VL π n x y) : VL π n (.agg ⟨a⟩) (.agg ⟨a'⟩)
  | tuple {a a' : List Value} (ha : a.length = a'.length) (hav : ∀ (i : Nat) (x y : Value), a[i]? = some x → a'[i]? = some y → VL π n x y) : VL π n (.tuple ⟨a⟩) (.tuple ⟨a'⟩)
def LL (π : Nat → Nat) (n : Nat) (l m : List Value) : Prop := l.length = m.length ∧ ∀ (i : Nat) (x y : Value), l[i]? = some x → m[i]? = some y → VL π n x y
theorem LL.nil {π : Nat → Nat} {n : Nat} : LL π n [] [] := ⟨rfl, fun i x y h => by simp at h⟩
theorem LL.cons {π : Nat → Nat} {n : Nat} {x y : Value} {l m : List Value} (h : VL π n x y) (t : LL π n l m) : LL π n (x :: l) (y :: m) := by
  refine ⟨by simp [t.1], fun i a b ha hb => ?_⟩
  cases i with
  | zero => simp at ha hb; subst ha; subst hb; exact h
  | succ i => exact t.2 i a b (by simpa using ha) (by simpa using hb)
theorem VL.tup {π : Nat → Nat} {n : Nat} {l m : List Value} (h : LL π n l m) : VL π n (.tuple ⟨l⟩) (.tuple ⟨m⟩) := .tuple h.1 h.2
theorem VL.aggI {π : Nat → Nat} {n : Nat} {l m : List Value} (h : LL π n l m) : VL π n (.agg ⟨l⟩) (.agg ⟨m⟩) := .agg h.1 h.2
theorem VL.scal {π : Nat → Nat} {n : Nat} {v v' : Value} (h : VL π n v v') (hs : Ev.scal v') : Ev.scal v := by cases h <;> first | trivial | exact hs.elim
section
variable {ι κ κ0 : Inj} {π : Nat → Nat} {n : Nat}
theorem VR.ren {x0 x : Value} (h : VL π n x0 x) (hk : ∀ a, a < n → κ0 a = κ (π a)) : ∀ {y : Value}, VR κ x y → VR κ0 x0 y := by
  induction h with
  | bool b => intro y r; cases r; exact .bool b
  | int k i => intro y r; cases r; exact .int k i
  | string b => intro y r; cases r; exact .string b
  | ptrN => intro y r; cases r; exact .ptrN
  | ptr h =>
    intro y r
    cases r with
    | ptr ha =>
      obtain ⟨B, h1, h2, rfl⟩ := ha
      exact .ptr ⟨B, by simp only; rw [hk _ h]; exact h1, rfl, rfl⟩
  | slN => intro y r; cases r; exact .slN
  | sl h =>
    intro y r
    cases r with
    | sl ha hc hn =>
      obtain ⟨B, h1, h2, rfl⟩ := ha
      exact .sl ⟨B, by simp only; rw [hk _ h]; exact h1, rfl, rfl⟩ hc hn
    | slO hb hs ha hc hn => exact .slO (by simp only; rw [hk _ h]; exact hb) rfl ha hc hn
    | slV hb hs ha => exact .slV (by simp only; rw [hk _ h]; exact hb) rfl ha
  | mapN => intro y r; cases r; exact .mapN
  | map h =>
    intro y r
    cases r with
    | map hb => exact .map (by rw [hk _ h]; exact hb)
  | nilF => intro y r; cases r; exact .nilF
  | nilI => intro y r; cases r; exact .nilI
  | iface t h ih =>
    intro y r
    cases r with
    | iface _ hv => exact .iface t (ih hv)
  | @func f f' a a' c c' hf ha hav hc hcv iha ihc =>
    intro y r
    cases r with
    | func hf' ha' hav' hc' hcv' =>
      refine .func ?_ (ha.trans ha') (fun i x z hx hz => ?_) (hc.trans hc') (fun i x z hx hz => ?_)
      · revert hf
        unfold FnL
        split <;> intro hf
        · subst hf; exact hf'
        · obtain ⟨h1, rfl⟩ := hf
          obtain ⟨B, h2, h3⟩ := hf'
          exact ⟨B, by rw [hk _ h1]; exact h2, h3⟩
        · exact hf.elim
      · have hlt := (List.getElem?_eq_some_iff.1 hx).1
        obtain ⟨u, hu⟩ : ∃ u, a'[i]? = some u := ⟨_, List.getElem?_eq_getElem (by omega)⟩
        exact iha i x u hx hu (hav' i u z hu hz)
      · have hlt := (List.getElem?_eq_some_iff.1 hx).1
        obtain ⟨u, hu⟩ : ∃ u, c'[i]? = some u := ⟨_, List.getElem?_eq_getElem (by omega)⟩
        exact ihc i x u hx hu (hcv' i u z hu hz)
  | @agg a a' ha hav iha =>
    intro y r
    cases r with
    | agg hs ha' hav' =>
      refine .agg (fun x hx => ?_) (ha.trans ha') (fun i x z hx hz => ?_)
      · obtain ⟨i, hi, rfl⟩ := List.mem_iff_getElem.1 hx
        have hi2 : i < a'.length := by omega
        have := hav i _ _ (List.getElem?_eq_getElem hi) (List.getElem?_eq_getElem hi2)
        exact this.scal (hs _ (List.getElem_mem hi2))
      · have hlt := (List.getElem?_eq_some_iff.1 hx).1
        obtain ⟨u, hu⟩ : ∃ u, a'[i]? = some u := ⟨_, List.getElem?_eq_getElem (by omega)⟩
        exact iha i x u hx hu (hav' i u z hu hz)
  | @tuple a a' ha hav iha =>
    intro y r
    cases r with
    | tuple ha' hav' =>
      refine .tuple (ha.trans ha') (fun i x z hx hz => ?_)
      have hlt := (List.getElem?_eq_some_iff.1 hx).1
      obtain ⟨u, hu⟩ : ∃ u, a'[i]? = some u := ⟨_, List.getElem?_eq_getElem (by omega)⟩
      exact iha i x u hx hu (hav' i u z hu hz)
theorem VR.closed (hn : ∀ a, n ≤ a → ι a = none) {x y : Value} (h : VR ι x y) : VL id n x x := by
  have lt : ∀ a B, ι a = some B → a < n := fun a B h => by
    rcases Nat.lt_or_ge a n with g | g
    · exact g
    · rw [hn a g] at h; cases h
  have self : ∀ (a : List Value) (ih : ∀ (i : Nat) (x y : Value), a[i]? = some x → ∀ z, z = x → VL id n z z) (i : Nat) (x y : Value), a[i]? = some x → a[i]? = some y → VL id n x y := by
    intro a ih i x y hx hy
    rw [hx] at hy; cases hy
    exact ih i x x hx x rfl
  induction h with
  | bool b => exact .bool b
  | int k i => exact .int k i
  | string b => exact .string b
  | ptrN => exact .ptrN
  | ptr h =>
    rename_i a a'
    obtain ⟨B, h1, h2, _⟩ := h
    obtain ⟨b, o, sp⟩ := a
    simp only at h2
    subst h2
    exact .ptr (lt _ _ h1)
  | slN => exact .slN
  | sl h hc hn2 =>
    rename_i a a' _ _
    obtain ⟨B, h1, h2, _⟩ := h
    obtain ⟨b, o, sp⟩ := a
    simp only at h2
    subst h2
    exact .sl (lt _ _ h1)
  | slO h1 hs ha hc hn2 =>
    rename_i a a' _ _ _
    obtain ⟨b, o, sp⟩ := a
    simp only at hs
    subst hs
    exact .sl (lt _ _ h1)
  | slV h1 hs ha =>
    rename_i a a' _
    obtain ⟨b, o, sp⟩ := a
    simp only at hs
    subst hs
    exact .sl (lt _ _ h1)
  | mapN => exact .mapN
  | map h1 => exact .map (lt _ _ h1)
  | nilF => exact .nilF
  | nilI => exact .nilI
  | iface t _ ih => exact .iface t ih
  | func hf ha _ hc _ iha ihc =>
    rename_i f f' a a' c c' _ _
    refine .func ?_ rfl (self a fun i x y hx z hz => ?_) rfl (self c fun i x y hx z hz => ?_)
    · revert hf
      unfold FnR FnL
      split <;> intro hf
      · rfl
      · obtain ⟨B, h1, _⟩ := hf; exact ⟨lt _ _ h1, rfl⟩
      · exact hf.elim
    · subst hz
      have hlt := (List.getElem?_eq_some_iff.1 hx).1
      exact iha i _ _ hx (List.getElem?_eq_getElem (by omega))
    · subst hz
      have hlt := (List.getElem?_eq_some_iff.1 hx).1
      exact ihc i _ _ hx (List.getElem?_eq_getElem (by omega))
  | agg hs ha _ iha =>
    rename_i a a' _
    refine .agg rfl (self a fun i x y hx z hz => ?_)
    subst hz
    have hlt := (List.getElem?_eq_some_iff.1 hx).1
    exact iha i _ _ hx (List.getElem?_eq_getElem (by omega))
  | tuple ha _ iha =>
    rename_i a a' _
    refine .tuple rfl (self a fun i x y hx z hz => ?_)
    subst hz
    have hlt := (List.getElem?_eq_some_iff.1 hx).1
    exact iha i _ _ hx (List.getElem?_eq_getElem (by omega))
theorem VL.old {m : Nat} {x y : Value} (h : VL id m x y) (hm : m ≤ n) (hp : ∀ a, a < m → π a = a) : VL π n x y := by
  induction h with
  | bool b => exact .bool b
  | int k i => exact .int k i
  | string b => exact .string b
  | ptrN => exact .ptrN
  | @ptr b o h => have := VL.ptr (π := π) (n := n) (o := o) (Nat.lt_of_lt_of_le h hm); rw [hp _ h] at this; exact this
  | slN => exact .slN
  | @sl b o k c h => have := VL.sl (π := π) (n := n) (o := o) (k := k) (c := c) (Nat.lt_of_lt_of_le h hm); rw [hp _ h] at this; exact this
  | mapN => exact .mapN
  | @map r h => have := VL.map (π := π) (n := n) (Nat.lt_of_lt_of_le h hm); rw [hp _ h] at this; exact this
  | nilF => exact .nilF
  | nilI => exact .nilI
  | iface t _ ih => exact .iface t ih
  | func hf ha _ hc _ iha ihc =>
    refine .func ?_ ha iha hc ihc
    revert hf
    unfold FnL
    split <;> intro hf
    · exact hf
    · obtain ⟨h1, rfl⟩ := hf; exact ⟨by omega, by rw [hp _ h1]; rfl⟩
    · exact hf.elim
  | agg ha _ iha => exact .agg ha iha
  | tuple ha _ iha => exact .tuple ha iha
/- Objects. -/
inductive EL (π : Nat → Nat) (n : Nat) : List (Value × Value) → List (Value × Value) → Prop
  | nil : EL π n [] []
  | cons {e f : Value × Value} {l m : List (Value × Value)} (h1 : VL π n e.1 f.1) (h2 : VL π n e.2 f.2) (t : EL π n l m) : EL π n (e :: l) (f :: m)
theorem EL.self {l : List (Value × Value)} (h : ∀ e ∈ l, VL π n e.1 e.1 ∧ VL π n e.2 e.2) : EL π n l l := by
  induction l with
  | nil => exact .nil
  | cons e l ih => exact .cons (h e (by simp)).1 (h e (by simp)).2 (ih fun f hf => h f (by simp [hf]))
theorem EL.perm {l m m' : List (Value × Value)} (h : EL π n l m) (p : m.Perm m') : ∃ l', l'.Perm l ∧ EL π n l' m' := by
  induction p generalizing l with
  | nil => cases h; exact ⟨[], .nil, .nil⟩
  | cons x _ ih =>
    cases h with
    | cons h1 h2 t =>
      obtain ⟨l', g1, g2⟩ := ih t
      exact ⟨_, g1.cons _, .cons h1 h2 g2⟩
  | swap x y l0 =>
    cases h with
    | cons h1 h2 t =>
      cases t with
      | cons k1 k2 t => exact ⟨_, .swap _ _ _, .cons k1 k2 (.cons h1 h2 t)⟩
  | trans _ _ ih1 ih2 =>
    obtain ⟨l1, g1, g2⟩ := ih1 h
    obtain ⟨l2, g3, g4⟩ := ih2 g2
    exact ⟨l2, g3.trans g1, g4⟩
theorem EL.ren {l m : List (Value × Value)} {c : Nat} {es : List MapEntry} (h : EL π n l m) (hk : ∀ a, a < n → κ0 a = κ (π a)) (r : ER κ c m es) : ER κ0 c l es := by
  induction h generalizing es with
  | nil => cases r; exact .nil
  | cons h1 h2 _ ih =>
    cases r with
    | cons k1 k2 k3 t => exact .cons (k1.ren h1 hk) (k2.ren h2 hk) k3 (ih t)
def ObL (π : Nat → Nat) (n : Nat) (o0 o : Ob) : Prop := match o0, o with
  | .cells cs0 es0 md0, .cells cs es md => LL π n cs0 cs ∧ es0 = es ∧ md0 = md
  | .map es0 _, .map es _ => (∃ q, q.Perm es ∧ EL π n es0 q) ∧ (es.Pairwise KA → es0.Pairwise KA)
  | .iter s p, .iter s' p' => s = s' ∧ p = p'
  | .loop st e fr ps a b, .loop st' e' fr' ps' a' b' => (st = st' ∧ e = e' ∧ fr = fr' ∧ ps = ps' ∧ a = a' ∧ b = b') ∧ ∀ t, VL π n (orUndef (fr.get t)) (orUndef (fr.get t))
  | .dead, _ => True
  | _, _ => False
theorem ObL.owned {o0 o : Ob} (h : ObL π n o0 o) (hl : live o0 = true) : Ev.owned o0 = Ev.owned o ∧ live o = true := by
  cases o0 <;> cases o <;> first | (exact h.elim) | (cases hl; done) | skip
  · obtain ⟨_, _, rfl⟩ := h
    exact ⟨by cases ‹Md› <;> rfl, rfl⟩
  all_goals exact ⟨rfl, rfl⟩
theorem OR.ren {o0 o : Ob} {B : Blk} {w : World} (h : ObL π n o0 o) (hl : live o0 = true) (hk : ∀ a, a < n → κ0 a = κ (π a)) (r : OR κ o B w) : OR κ0 o0 B w := by
  cases o0 <;> cases o <;> first | (exact h.elim) | (cases hl; done) | skip
  · rename_i cs0 es0 md0 cs es md
    obtain ⟨h1, rfl, rfl⟩ := h
    obtain ⟨cs', T, fr, g1, ⟨g2, g3, g4, g5⟩, g6⟩ := r
    refine ⟨cs', T, fr, g1, ⟨g2, by rw [h1.1]; exact g3, fun i x hx => ?_, by rw [h1.1]; exact g5⟩, by rw [h1.1]; exact g6⟩
    have hlt := (List.getElem?_eq_some_iff.1 hx).1
    obtain ⟨u, hu⟩ : ∃ u, cs[i]? = some u := ⟨_, List.getElem?_eq_getElem (by rw [← h1.1]; omega)⟩
    obtain ⟨k1, y, k2, k3⟩ := g4 i u hu
    have hv := h1.2 i x u hx hu
    exact ⟨hv.scal k1, y, k2, k3.ren hv hk⟩
  · rename_i es0 c0 es c
    obtain ⟨⟨q, h1, h2⟩, h3⟩ := h
    obtain ⟨es', clk', g1, g2, ⟨p, g3, g4⟩, g5⟩ := r
    obtain ⟨l', k1, k2⟩ := h2.perm (h1.trans g3.symm)
    exact ⟨es', clk', g1, h3 g2, ⟨l', k1, k2.ren hk g4⟩, g5⟩
  · obtain ⟨rfl, rfl⟩ := h
    exact r
  · obtain ⟨⟨rfl, rfl, rfl, rfl, rfl, rfl⟩, h1⟩ := h
    obtain ⟨g0, q, g1, g2, g3, g4, g5⟩ := r
    exact ⟨g0, q, g1, g2, g3, ⟨g4.size, fun t => (g4.val t).ren (h1 t) hk⟩, g5⟩
structure Like (s s' s0 : St) (π : Nat → Nat) : Prop where
  nx : s.next ≤ s0.next
  old : ∀ a, a < s.next → π a = a
  ob : ∀ a o0, s0.get a = some o0 → live o0 = true → ∃ o, s'.get (π a) = some o ∧ ObL π s0.next o0 o
  inj : ∀ a a' o o', s0.get a = some o → s0.get a' = some o' → live o = true → live o' = true → a ≠ a' → π a ≠ π a'
  gone : ∀ a, a < s.next → s.get a = none → s0.get a = none
  top : ∀ a, s0.next ≤ a → s0.get a = none
theorem Ext.like {base : Nat} {s s' s0 : St} {w w' : World} (r : Rel ι base s w) (e : Ext none_ ι base s w κ s' w') (h : Like s s' s0 π) (hk : ∀ a, a < s0.next → κ0 a = κ (π a)) (hk0 : ∀ a, s0.next ≤ a → κ0 a = none) : Ext none_ ι base s w κ0 s0 w' := by
  have at_ : ∀ a B, κ0 a = some B → κ (π a) = some B := by
    intro a B hB
    rcases Nat.lt_or_ge a s0.next with g | g
    · rw [← hk a g]; exact hB
    · rw [hk0 a g] at hB; cases hB
  have r' := e.rel
  refine ⟨fun a B hB => ?_, ⟨?_, ?_, ?_, ?_, ?_, r'.base_le⟩, h.nx, ?_, e.keep, ?_, e.size, e.os, e.tape, e.output⟩
  · have hlt : a < s.next := by
      rcases Nat.lt_or_ge a s.next with g | g
      · exact g
      · rw [(r.next a g).2] at hB; cases hB
    rw [hk a (Nat.lt_of_lt_of_le hlt h.nx), h.old a hlt]
    exact e.le _ _ hB
  · intro a o0 ha hl
    obtain ⟨o, h1, h2⟩ := h.ob a o0 ha hl
    obtain ⟨g1, g2⟩ := h2.owned hl
    obtain ⟨B, k1, k2⟩ := r'.ob _ o h1 g2
    have hlt : a < s0.next := by
      rcases Nat.lt_or_ge a s0.next with g | g
      · exact g
      · rw [h.top a g] at ha; cases ha
    exact ⟨B, by rw [hk a hlt]; exact k1, k2.ren h2 hl hk⟩
  · intro a a' o o' B B' ha ha' hne ho hl hB hB'
    obtain ⟨q, h1, h2⟩ := h.ob a o ha (owned_live ho)
    obtain ⟨q', h1', h2'⟩ := h.ob a' o' ha' hl
    exact r'.sep _ _ q q' B B' h1 h1' (h.inj a a' o o' ha ha' (owned_live ho) hl hne) (by rw [← (h2.owned (owned_live ho)).1]; exact ho) (h2'.owned hl).2 (at_ _ _ hB) (at_ _ _ hB')
  · intro a o B ha ho hB
    obtain ⟨q, h1, h2⟩ := h.ob a o ha (owned_live ho)
    exact r'.own _ q B h1 (by rw [← (h2.owned (owned_live ho)).1]; exact ho) (at_ _ _ hB)
  · intro a ha
    exact ⟨h.top a ha, hk0 a ha⟩
  · intro a B hB
    exact r'.blk _ B (at_ _ _ hB)
  · intro a ha hs g1
    obtain ⟨k1, k2⟩ := e.gone a ha hs g1
    refine ⟨h.gone a ha g1, fun hi => ?_⟩
    rw [hk a (Nat.lt_of_lt_of_le ha h.nx), h.old a ha]
    exact k2 hi
  · intro a o B ha hl hB hlt
    obtain ⟨q, h1, h2⟩ := h.ob a o ha hl
    obtain ⟨a0, o0, B0, f1, f2, f3, f4, f5⟩ := e.img _ q B h1 (h2.owned hl).2 (at_ _ _ hB) hlt
    exact ⟨a0, o0, B0, f1, f2, fun ho => f3 (by rw [← (h2.owned hl).1]; exact ho), f4, f5⟩
structure Wf (s : St) : Prop where
  top : ∀ a, s.next ≤ a → s.get a = none
  cells : ∀ a cs es md, s.get a = some (.cells cs es md) → ∀ x ∈ cs, VL id s.next x x
  ents : ∀ a es c, s.get a = some (.map es c) → ∀ e ∈ es, VL id s.next e.1 e.1 ∧ VL id s.next e.2 e.2
  loops : ∀ a st e fr ps asg bd, s.get a = some (.loop st e fr ps asg bd) → ∀ t, VL id s.next (orUndef (fr.get t)) (orUndef (fr.get t))
  plain : ∀ a m k c l, s.get a ≠ some (.miter m k c l)
theorem Like.same {s : St} (hw : Wf s) : Like s s s id :=
  ⟨Nat.le_refl _, fun _ _ => rfl, fun a o0 h hl => ⟨o0, h, by
    cases o0 with
    | cells cs es md =>
      refine ⟨⟨rfl, fun i x y hx hy => ?_⟩, rfl, rfl⟩
      rw [hx] at hy; cases hy
      exact hw.cells a cs es md h x (List.mem_of_getElem? hx)
    | map es c => exact ⟨⟨es, .refl _, .self (hw.ents a es c h)⟩, id⟩
    | iter _ _ => exact ⟨rfl, rfl⟩
    | miter _ _ _ _ => exact (hw.plain _ _ _ _ _ h).elim
    | loop _ _ _ _ _ _ => exact ⟨⟨rfl, rfl, rfl, rfl, rfl, rfl⟩, hw.loops _ _ _ _ _ _ _ h⟩
    | dead => trivial⟩, fun a a' _ _ _ _ _ _ h => h, fun a _ h => h, hw.top⟩
theorem Rel.wf {base : Nat} {s : St} {w : World} (r : Rel ι base s w) : Wf s := by
  have hn : ∀ a, s.next ≤ a → ι a = none := fun a h => (r.next a h).2
  refine ⟨fun a h => (r.next a h).1, fun a cs es md h x hx => ?_, fun a es c h e he => ?_, fun a st e fr ps asg bd h t => ?_, fun a m k c l h => ?_⟩
  · obtain ⟨B, _, cs', T, fr, _, ⟨_, _, g4, _⟩, _⟩ := r.ob a _ h rfl
    obtain ⟨i, hi⟩ := List.mem_iff_getElem?.1 hx
    obtain ⟨_, y, _, k3⟩ := g4 i x hi
    exact k3.closed hn
  · obtain ⟨B, _, es', clk', _, _, ⟨p, g3, g4⟩, _⟩ := r.ob a _ h rfl
    have hp : e ∈ p := g3.mem_iff.2 he
    clear g3
    generalize es'.toList = m at g4
    induction g4 with
    | nil => cases hp
    | cons k1 k2 k3 _ ih =>
      rcases List.mem_cons.1 hp with rfl | hp
      · exact ⟨k1.closed hn, k2.closed hn⟩
      · exact ih hp
  · obtain ⟨B, _, _, q, _, _, _, g4, _⟩ := r.ob a _ h rfl
    exact (g4.val t).closed hn
  · obtain ⟨B, _, g⟩ := r.ob a _ h rfl
    exact g
end
end Go.Ev

namespace Go.Ev
open Go (Sem)
theorem sameEnts_eq : ∀ {x y : List (Value × Value)}, sameEnts x y = true → x = y := by
  intro x
  induction x with
  | nil => intro y h; cases y with
    | nil => rfl
    | cons _ _ => cases h
  | cons a x ih =>
    intro y h
    cases y with
    | nil => cases h
    | cons b y =>
      have h : (sameV a.1 b.1 && same a.2 b.2 && sameEnts x y) = true := h
      rw [Bool.and_eq_true, Bool.and_eq_true] at h
      have e1 := sameV_eq h.1.1
      have e2 := same_eq h.1.2
      rw [ih h.2, show a = b from Prod.ext e1 e2]
theorem mdNo_eq {a b : Md} (h : Nat.beq (mdNo a) (mdNo b) = true) : a = b := by
  rw [Nat.beq_eq] at h
  cases a <;> cases b <;> first | rfl | cases h
theorem sameOb_eq {x y : Ob} (h : sameOb x y = true) : x = y := by
  cases x with
  | cells cs es md =>
    cases y with
    | cells cs2 es2 md2 =>
      have h : (Nat.beq es es2 && Nat.beq (mdNo md) (mdNo md2) && sameL cs cs2) = true := h
      rw [Bool.and_eq_true, Bool.and_eq_true] at h
      rw [Nat.eq_of_beq_eq_true h.1.1, mdNo_eq h.1.2, sameL_eq h.2]
    | _ => cases h
  | map es c =>
    cases y with
    | map es2 c2 =>
      have h : (Nat.beq c c2 && sameEnts es es2) = true := h
      rw [Bool.and_eq_true] at h
      rw [Nat.eq_of_beq_eq_true h.1, sameEnts_eq h.2]
    | _ => cases h
  | dead => cases y <;> first | rfl | cases h
  | iter s p =>
    cases y with
    | iter s2 p2 =>
      have h : (Nat.beq p p2 && bytesEq s.data.toList s2.data.toList) = true := h
      rw [Bool.and_eq_true, bytesEq_eq, decide_eq_true_eq] at h
      rw [Nat.eq_of_beq_eq_true h.1, show s = s2 from ByteArray.ext (Array.ext' h.2)]
    | _ => cases h
  | _ => cases h
theorem sameO_eq {x y : Option Ob} (h : sameO x y = true) : x = y := by
  cases x with
  | none => cases y with
    | none => rfl
    | some _ => cases h
  | some a => cases y with
    | none => cases h
    | some b => rw [sameOb_eq (show sameOb a b = true from h)]
theorem sameT_eq : ∀ {x y : Tr Ob}, sameT x y = true → x = y := by
  intro x
  induction x with
  | e => intro y h; cases y with
    | e => rfl
    | n => cases h
  | n v a b c d p f g i ha hb hc hd hp hf hg hi =>
    intro y h
    cases y with
    | e => cases h
    | n v2 a2 b2 c2 d2 p2 f2 g2 i2 =>
      have h : (sameO v v2 && (sameT a a2 && (sameT b b2 && (sameT c c2 && (sameT d d2 && (sameT p p2 && (sameT f f2 && (sameT g g2 && sameT i i2)))))))) = true := h
      simp only [Bool.and_eq_true] at h
      obtain ⟨h0, h1, h2, h3, h4, h5, h6, h7, h8⟩ := h
      rw [sameO_eq h0, ha h1, hb h2, hc h3, hd h4, hp h5, hf h6, hg h7, hi h8]
theorem sameSt_eq {s t : St} (h : sameSt s t = true) : s = t := by
  unfold sameSt at h
  rw [Bool.and_eq_true] at h
  obtain ⟨sh, sn⟩ := s
  obtain ⟨th, tn⟩ := t
  have h1 : sn = tn := Nat.eq_of_beq_eq_true h.1
  have h2 : sh = th := sameT_eq h.2
  rw [h1, h2]
theorem sameR_eq {x y : Value × St} (h : sameR x y = true) : x = y := by
  unfold sameR at h
  rw [Bool.and_eq_true] at h
  exact Prod.ext (same_eq h.1) (sameSt_eq h.2)
theorem allSame_eq {x : Value × St} {t : List (Value × St)} (h : allSame x t = true) : ∀ y ∈ t, y = x := by
  induction t with
  | nil => simp
  | cons z t ih =>
    have h : cnd (sameR x z) (allSame x t) false = true := h
    rw [cnd_eq] at h
    split at h
    · rename_i hs
      intro y hy
      rcases List.mem_cons.1 hy with rfl | hy
      · exact (sameR_eq hs).symm
      · exact ih h y hy
    · cases h
section
variable {lo n : Nat} {B : List Nat}
theorem ixF_get {b : Nat} : ∀ {l : List Nat} {i j : Nat}, ixF b l i = some j → i ≤ j ∧ l[j - i]? = some b := by
  intro l
  induction l with
  | nil => intro i j h; cases h
  | cons x l ih =>
    intro i j h
    have h : cnd (Nat.beq x b) (some i) (ixF b l (i + 1)) = some j := h
    rw [cnd_eq] at h
    split at h
    · rename_i hx
      cases h
      rw [Nat.eq_of_beq_eq_true hx]
      exact ⟨Nat.le_refl _, by simp⟩
    · obtain ⟨h1, h2⟩ := ih h
      refine ⟨by omega, ?_⟩
      rw [show j - i = (j - (i + 1)) + 1 by omega, List.getElem?_cons_succ]
      exact h2
def backN (lo : Nat) (B : List Nat) (a : Nat) : Nat := if a < lo then a else B.getD (a - lo) 0
theorem renN_ok {b a : Nat} (h : renN lo B b = some a) : a < lo + B.length ∧ backN lo B a = b := by
  have h : cnd (Nat.ble (b + 1) lo) (some b) (ixF b B lo) = some a := h
  rw [cnd_eq] at h
  split at h
  · rename_i hb
    rw [Nat.ble_eq] at hb
    cases h
    exact ⟨by omega, if_pos hb⟩
  · obtain ⟨h1, h2⟩ := ixF_get h
    have hlt := (List.getElem?_eq_some_iff.1 h2).1
    refine ⟨by omega, ?_⟩
    unfold backN
    rw [if_neg (by omega), List.getD_eq_getElem?_getD, h2]
    rfl
theorem renAd_ok {a a0 : Addr} (h : renAd lo B a = some a0) : ∃ b0 o, a0 = ⟨b0, o, none⟩ ∧ b0 < lo + B.length ∧ a = ⟨backN lo B b0, o, none⟩ := by
  obtain ⟨b, o, sp⟩ := a
  obtain ⟨h1, h2⟩ := must_eq.1 (show must sp.isNone (om (renN lo B b) fun b => ⟨b, o, none⟩) = some a0 from h)
  obtain ⟨b0, h3, h4⟩ := om_eq.1 h2
  rw [Option.isNone_iff_eq_none] at h1
  subst h1
  obtain ⟨k1, k2⟩ := renN_ok h3
  exact ⟨b0, o, h4.symm, k1, by rw [k2]⟩
theorem renFn_ok {f f0 : Fn} (h : renFn lo B f = some f0) : FnL (backN lo B) (lo + B.length) f0 f := by
  cases f with
  | func g => cases h; rfl
  | yield l =>
    obtain ⟨l0, h1, h2⟩ := ob_eq.1 (show ob (some l) (fun l => om (renN lo B l) Fn.yield) = some f0 from h)
    cases h1
    obtain ⟨a, h3, h4⟩ := om_eq.1 h2
    subst h4
    obtain ⟨k1, k2⟩ := renN_ok h3
    exact ⟨k1, by rw [k2]⟩
  | _ => cases h
theorem renV_ok {v v0 : Value} (h : renV lo B v = some v0) : VL (backN lo B) (lo + B.length) v0 v := by
  have lst : ∀ {l l0 : List Value}, (∀ (i : Nat) (x y : Value), l0[i]? = some x → l[i]? = some y → VL (backN lo B) (lo + B.length) x y) → l0.length = l.length → LL (backN lo B) (lo + B.length) l0 l := fun h g => ⟨g, h⟩
  revert v0
  induction v using Value.rec (motive_2 := fun a => ∀ l0, Value.rec_1 (motive_1 := fun _ => Option Value) (motive_2 := fun _ => Option (List Value)) (motive_3 := fun _ => Option (List Value))
      (fun b => some (.bool b)) (fun k n => some (.int k n)) (fun _ _ => none) (fun _ _ _ => none) (fun b => some (.string b)) (fun a => renPtr lo B a) (fun a n c => renSl lo B a n c) (fun r => renMap lo B r) (fun _ => none)
      (fun f _ _ a c => ob (renFn lo B f) fun f => ob a fun a => om c fun c => .func f ⟨a⟩ ⟨c⟩) (some .nilFunc) (fun t _ r => om r fun v => .iface t v) (some .nilIface) (fun _ r => om r fun l => .agg ⟨l⟩) (fun _ r => om r fun l => .tuple ⟨l⟩)
      (fun _ r => r) (some []) (fun _ _ x l => ob x fun x => om l fun l => x :: l) a = some l0 → LL (backN lo B) (lo + B.length) l0 a.toList)
    (motive_3 := fun l => ∀ l0, Value.rec_2 (motive_1 := fun _ => Option Value) (motive_2 := fun _ => Option (List Value)) (motive_3 := fun _ => Option (List Value))
      (fun b => some (.bool b)) (fun k n => some (.int k n)) (fun _ _ => none) (fun _ _ _ => none) (fun b => some (.string b)) (fun a => renPtr lo B a) (fun a n c => renSl lo B a n c) (fun r => renMap lo B r) (fun _ => none)
      (fun f _ _ a c => ob (renFn lo B f) fun f => ob a fun a => om c fun c => .func f ⟨a⟩ ⟨c⟩) (some .nilFunc) (fun t _ r => om r fun v => .iface t v) (some .nilIface) (fun _ r => om r fun l => .agg ⟨l⟩) (fun _ r => om r fun l => .tuple ⟨l⟩)
      (fun _ r => r) (some []) (fun _ _ x l => ob x fun x => om l fun l => x :: l) l = some l0 → LL (backN lo B) (lo + B.length) l0 l) with
  | bool b => intro v0 h; cases h; exact .bool b
  | int k i => intro v0 h; cases h; exact .int k i
  | float => intro v0 h; cases h
  | complex => intro v0 h; cases h
  | string b => intro v0 h; cases h; exact .string b
  | pointer a =>
    intro v0 h
    cases a with
    | none => cases h; exact .ptrN
    | some a =>
      obtain ⟨a0, h1, h2⟩ := om_eq.1 (show om (renAd lo B a) (fun a => Value.pointer (some a)) = some v0 from h)
      obtain ⟨b0, o, rfl, k1, rfl⟩ := renAd_ok h1
      subst h2
      exact .ptr k1
  | slice a k c =>
    intro v0 h
    cases a with
    | none =>
      obtain ⟨h1, h2⟩ := must_eq.1 (show must (Nat.beq k 0) (must (Nat.beq c 0) (some (.slice none 0 0))) = some v0 from h)
      obtain ⟨h3, h4⟩ := must_eq.1 h2
      cases h4
      rw [Nat.eq_of_beq_eq_true h1, Nat.eq_of_beq_eq_true h3]
      exact .slN
    | some a =>
      obtain ⟨a0, h1, h2⟩ := om_eq.1 (show om (renAd lo B a) (fun a => Value.slice (some a) k c) = some v0 from h)
      obtain ⟨b0, o, rfl, k1, rfl⟩ := renAd_ok h1
      subst h2
      exact .sl k1
  | map r =>
    intro v0 h
    cases r with
    | none => cases h; exact .mapN
    | some r =>
      obtain ⟨a0, h1, h2⟩ := om_eq.1 (show om (renN lo B r) (fun r => Value.map (some r)) = some v0 from h)
      obtain ⟨k1, k2⟩ := renN_ok h1
      subst h2
      rw [← k2]
      exact .map k1
  | chan => intro v0 h; cases h
  | func f a c iha ihc =>
    intro v0 h
    obtain ⟨f0, h1, h2⟩ := ob_eq.1 h
    obtain ⟨a0, h3, h4⟩ := ob_eq.1 h2
    obtain ⟨c0, h5, h6⟩ := om_eq.1 h4
    subst h6
    obtain ⟨a⟩ := a
    obtain ⟨c⟩ := c
    have g1 := iha _ h3
    have g2 := ihc _ h5
    exact .func (renFn_ok h1) g1.1 g1.2 g2.1 g2.2
  | nilFunc => intro v0 h; cases h; exact .nilF
  | iface t v ih =>
    intro v0 h
    obtain ⟨x, h1, h2⟩ := om_eq.1 h
    subst h2
    exact .iface t (ih h1)
  | nilIface => intro v0 h; cases h; exact .nilI
  | agg cs ih =>
    intro v0 h
    obtain ⟨l0, h1, h2⟩ := om_eq.1 h
    subst h2
    obtain ⟨cs⟩ := cs
    exact .aggI (ih _ h1)
  | tuple cs ih =>
    intro v0 h
    obtain ⟨l0, h1, h2⟩ := om_eq.1 h
    subst h2
    obtain ⟨cs⟩ := cs
    exact .tup (ih _ h1)
  | mk l ih => rename_i l0 h; exact ih l0 h
  | nil => rename_i h; cases h; exact LL.nil
  | cons x l ihx ihl =>
    rename_i l0 h
    obtain ⟨x0, h1, h2⟩ := ob_eq.1 h
    obtain ⟨l1, h3, h4⟩ := om_eq.1 h2
    subst h4
    exact LL.cons (ihx h1) (ihl _ h3)
theorem VL.plain {π : Nat → Nat} {v : Value} (h : plainC v = true) : VL π n v v := by
  cases v with
  | bool b => exact .bool b
  | int k i => exact .int k i
  | string b => exact .string b
  | pointer a => cases a with
    | none => exact .ptrN
    | some a => simp [plainC] at h
  | slice a k c => cases a with
    | none => cases k with
      | zero => cases c with
        | zero => exact .slN
        | succ c => simp [plainC] at h
      | succ k => simp [plainC] at h
    | some a => simp [plainC] at h
  | map r => cases r with
    | none => exact .mapN
    | some r => simp [plainC] at h
  | nilFunc => exact .nilF
  | nilIface => exact .nilI
  | _ => simp [plainC] at h
theorem VL.plainV {π : Nat → Nat} {v : Value} (h : Ev.plainV v = true) : VL π n v v := by
  unfold Ev.plainV at h
  cases v with
  | agg cs =>
    refine .agg rfl fun i x y hx hy => ?_
    rw [hx] at hy; cases hy
    exact .plain (List.all_eq_true.1 h x (List.mem_of_getElem? hx))
  | _ => exact .plain (by simpa [Value.cells] using h)
theorem insE_perm (x : Value × Value) (l : List (Value × Value)) : (insE x l).Perm (x :: l) := by
  induction l with
  | nil => exact .refl _
  | cons y l ih =>
    have e : insE x (y :: l) = cnd (leInts (keyInts x.1) (keyInts y.1)) (x :: y :: l) (y :: insE x l) := rfl
    rw [e, cnd_eq]
    split
    · exact .refl _
    · exact (ih.cons y).trans (.swap _ _ _)
theorem sortE_perm (l : List (Value × Value)) : (sortE l).Perm l := by
  induction l with
  | nil => exact .refl _
  | cons x l ih => exact (insE_perm x (sortE l)).trans (ih.cons x)
theorem optL_LL {l l0 : List Value} (h : optL (renV lo B) l = some l0) : LL (backN lo B) (lo + B.length) l0 l := by
  induction l generalizing l0 with
  | nil => cases h; exact LL.nil
  | cons x l ih =>
    rw [optL_cons] at h
    obtain ⟨x0, h1, h2⟩ := ob_eq.1 h
    obtain ⟨l1, h3, h4⟩ := om_eq.1 h2
    subst h4
    exact LL.cons (renV_ok h1) (ih h3)
theorem optL_EL {l l0 : List (Value × Value)} (h : optL (renE lo B) l = some l0) : EL (backN lo B) (lo + B.length) l0 l ∧ (l.Pairwise KA → l0.Pairwise KA) ∧ l0.map (·.1) = l.map (·.1) := by
  induction l generalizing l0 with
  | nil => cases h; exact ⟨.nil, id, rfl⟩
  | cons x l ih =>
    rw [optL_cons] at h
    obtain ⟨x0, h1, h2⟩ := ob_eq.1 h
    obtain ⟨l1, h3, h4⟩ := om_eq.1 h2
    subst h4
    obtain ⟨g1, g2, g3⟩ := ih h3
    obtain ⟨k1, k2⟩ := must_eq.1 (show must (plainV x.1) (om (renV lo B x.2) fun v => (x.1, v)) = some x0 from h1)
    obtain ⟨v0, k3, k4⟩ := om_eq.1 k2
    subst k4
    refine ⟨.cons (.plainV k1) (renV_ok k3) g1, fun hp => ?_, by simp [g3]⟩
    rw [List.pairwise_cons] at hp ⊢
    refine ⟨fun f hf => ?_, g2 hp.2⟩
    have : f.1 ∈ l.map (·.1) := by rw [← g3]; exact List.mem_map.2 ⟨f, hf, rfl⟩
    obtain ⟨f', hf', he⟩ := List.mem_map.1 this
    have := hp.1 f' hf'
    unfold KA at this ⊢
    rw [← he]; exact this
theorem renO_ok {o o0 : Ob} (h : renO lo B o = some o0) : ObL (backN lo B) (lo + B.length) o0 o ∧ (live o0 = true → live o = true) := by
  cases o with
  | cells cs es md =>
    obtain ⟨l, h1, h2⟩ := om_eq.1 (show om (optL (renV lo B) cs) (fun cs => Ob.cells cs es md) = some o0 from h)
    subst h2
    exact ⟨⟨optL_LL h1, rfl, rfl⟩, fun _ => rfl⟩
  | map es c =>
    obtain ⟨l, h1, h2⟩ := om_eq.1 (show om (optL (renE lo B) (sortE es)) (fun es => Ob.map es 0) = some o0 from h)
    subst h2
    obtain ⟨g1, g2, _⟩ := optL_EL h1
    have hp := sortE_perm es
    exact ⟨⟨⟨_, hp, g1⟩, fun k => g2 ((hp.pairwise_iff (fun h => KA.symm h)).2 k)⟩, fun _ => rfl⟩
  | iter s p => cases h; exact ⟨⟨rfl, rfl⟩, fun _ => rfl⟩
  | dead => cases h; exact ⟨trivial, fun h => h⟩
  | _ => cases h
theorem newB_ok : ∀ {l : List Nat} {i : Nat}, newB lo B l i = true → (∀ b ∈ l, lo ≤ b) ∧ ∀ j b, l[j]? = some b → ixF b B lo = some (i + j) := by
  intro l
  induction l with
  | nil => intro i _; exact ⟨by simp, by simp⟩
  | cons x l ih =>
    intro i h
    have h : cnd (Nat.ble lo x) (Option.rec false (fun j => cnd (Nat.beq i j) (newB lo B l (i + 1)) false) (ixF x B lo) : Bool) false = true := h
    rw [cnd_eq] at h
    split at h
    · rename_i hx
      rw [Nat.ble_eq] at hx
      cases hj : ixF x B lo with
      | none => rw [hj] at h; cases h
      | some j =>
        rw [hj] at h
        have h : cnd (Nat.beq i j) (newB lo B l (i + 1)) false = true := h
        rw [cnd_eq] at h
        split at h
        · rename_i hij
          obtain ⟨h1, h2⟩ := ih h
          refine ⟨fun b hb => ?_, fun k b hk => ?_⟩
          · rcases List.mem_cons.1 hb with rfl | hb
            · exact hx
            · exact h1 b hb
          · cases k with
            | zero =>
              simp at hk; subst hk
              rw [hj, Nat.eq_of_beq_eq_true hij]; simp
            | succ k =>
              rw [h2 k b (by simpa using hk)]; congr 1; omega
        · cases h
    · cases h
theorem changed_ok {s y : St} : ∀ {n a : Nat}, a < n → a ∉ changed s y n → s.get a = y.get a := by
  intro n
  induction n with
  | zero => intro a h; omega
  | succ n ih =>
    intro a h hn
    have e : changed s y (n + 1) = cnd (sameO (s.get n) (y.get n)) (changed s y n) (n :: changed s y n) := rfl
    rw [e, cnd_eq] at hn
    by_cases he : a = n
    · subst he
      split at hn
      · rename_i hs; exact sameO_eq hs
      · simp at hn
    · refine ih (by omega) ?_
      split at hn
      · exact hn
      · exact fun hm => hn (List.mem_cons_of_mem _ hm)
theorem changed_lt {s y : St} : ∀ {n a : Nat}, a ∈ changed s y n → a < n := by
  intro n
  induction n with
  | zero => intro a h; cases h
  | succ n ih =>
    intro a h
    have e : changed s y (n + 1) = cnd (sameO (s.get n) (y.get n)) (changed s y n) (n :: changed s y n) := rfl
    rw [e, cnd_eq] at h
    split at h
    · have := ih h; omega
    · rcases List.mem_cons.1 h with rfl | h
      · omega
      · have := ih h; omega
theorem changed_nodup {s y : St} : ∀ n : Nat, (changed s y n).Nodup := by
  intro n
  induction n with
  | zero => exact List.nodup_nil
  | succ n ih =>
    have e : changed s y (n + 1) = cnd (sameO (s.get n) (y.get n)) (changed s y n) (n :: changed s y n) := rfl
    rw [e, cnd_eq]
    split
    · exact ih
    · refine List.nodup_cons.2 ⟨fun h => ?_, ih⟩
      have := changed_lt h; omega
theorem setAll_get : ∀ (W : List (Nat × Ob)) (h : Tr Ob) (a : Nat), (W.map (·.1)).Nodup → (setAll h W).get a = match W.find? (fun x => x.1 == a) with | some x => some x.2 | none => h.get a := by
  intro W
  induction W with
  | nil => intro h a _; rfl
  | cons x W ih =>
    intro h a hn
    show (setAll (h.set x.1 x.2) W).get a = _
    simp only [List.map_cons, List.nodup_cons] at hn
    rw [ih _ _ hn.2]
    by_cases hx : x.1 = a
    · rw [List.find?_cons_of_pos (by simpa using hx)]
      have : W.find? (fun x => x.1 == a) = none := by
        rw [List.find?_eq_none]
        intro y hy hya
        exact hn.1 (List.mem_map.2 ⟨y, hy, by rw [hx]; simpa using hya⟩)
      rw [this]
      simp only
      rw [← hx, Tr.get_set_same]
    · rw [List.find?_cons_of_neg (by simpa using hx)]
      split
      · rfl
      · rw [Tr.get_set, if_neg hx]
theorem find_mem {W : List (Nat × Ob)} (hn : (W.map (·.1)).Nodup) {a : Nat} {o : Ob} (h : (a, o) ∈ W) : W.find? (fun x => x.1 == a) = some (a, o) := by
  induction W with
  | nil => cases h
  | cons x W ih =>
    simp only [List.map_cons, List.nodup_cons] at hn
    rcases List.mem_cons.1 h with rfl | h
    · exact List.find?_cons_of_pos (by simp)
    · rw [List.find?_cons_of_neg, ih hn.2 h]
      intro hx
      exact hn.1 (List.mem_map.2 ⟨_, h, by simpa using (by simpa using hx : x.1 = a).symm⟩)
theorem optL_old {s y : St} : ∀ {D : List Nat} {W : List (Nat × Ob)}, optL (oldOb s y lo B) D = some W → W.map (·.1) = D ∧ ∀ a ∈ D, ∃ o o0 o1, s.get a = some o ∧ y.get a = some o0 ∧ renO lo B o0 = some o1 ∧ (a, o1) ∈ W := by
  intro D
  induction D with
  | nil => intro W h; cases h; exact ⟨rfl, by simp⟩
  | cons a D ih =>
    intro W h
    rw [optL_cons] at h
    obtain ⟨x, h1, h2⟩ := ob_eq.1 h
    obtain ⟨l, h3, h4⟩ := om_eq.1 h2
    subst h4
    obtain ⟨o, k1, k2⟩ := ob_eq.1 (show ob (s.get a) (fun _ => ob (y.get a) fun o => om (renO lo B o) fun o => (a, o)) = some x from h1)
    obtain ⟨o0, k3, k4⟩ := ob_eq.1 k2
    obtain ⟨o1, k5, k6⟩ := om_eq.1 k4
    subst k6
    obtain ⟨g1, g2⟩ := ih h3
    refine ⟨by simp [g1], fun b hb => ?_⟩
    rcases List.mem_cons.1 hb with rfl | hb
    · exact ⟨o, o0, o1, k1, k3, k5, by simp⟩
    · obtain ⟨p, q, t, e1, e2, e3, e4⟩ := g2 b hb
      exact ⟨p, q, t, e1, e2, e3, List.mem_cons_of_mem _ e4⟩
theorem optL_new {y : St} : ∀ {C : List Nat} {N : List Ob}, optL (newOb y lo B) C = some N → N.length = C.length ∧ ∀ i b : Nat, C[i]? = some b → ∃ o o0, y.get b = some o ∧ renO lo B o = some o0 ∧ N[i]? = some o0 := by
  intro C
  induction C with
  | nil => intro N h; cases h; exact ⟨rfl, by simp⟩
  | cons c C ih =>
    intro N h
    rw [optL_cons] at h
    obtain ⟨x, h1, h2⟩ := ob_eq.1 h
    obtain ⟨l, h3, h4⟩ := om_eq.1 h2
    subst h4
    obtain ⟨o, k1, k2⟩ := ob_eq.1 (show ob (y.get c) (fun o => renO lo B o) = some x from h1)
    obtain ⟨g1, g2⟩ := ih h3
    refine ⟨by simp [g1], fun i b hb => ?_⟩
    cases i with
    | zero => simp at hb; subst hb; exact ⟨o, x, k1, k2, by simp⟩
    | succ i =>
      obtain ⟨p, q, e1, e2, e3⟩ := g2 i b (by simpa using hb)
      exact ⟨p, q, e1, e2, by simpa using e3⟩
end
theorem canon_like {s : St} {y : Value × St} {c : Canon} (hw : Wf s) (hgone : ∀ a, a < s.next → s.get a = none → y.2.get a = none) (hc : canon s y = some c) :
    ∃ π, Like s y.2 (putC s c).2 π ∧ VL π (putC s c).2.next (putC s c).1 y.1 := by
  obtain ⟨B, hB⟩ : ∃ B, canonB s y (changed s y.2 s.next) B = some c := ⟨_, hc⟩
  obtain ⟨h1, h2⟩ := must_eq.1 (show must (newB s.next B B s.next) (ob (renV s.next B y.1) fun v => ob (optL (oldOb s y.2 s.next B) (changed s y.2 s.next)) fun W => om (optL (newOb y.2 s.next B) B) fun N => (⟨v, W, N⟩ : Canon)) = some c from hB)
  obtain ⟨v, h3, h4⟩ := ob_eq.1 h2
  obtain ⟨W, h5, h6⟩ := ob_eq.1 h4
  obtain ⟨N, h7, h8⟩ := om_eq.1 h6
  subst h8
  obtain ⟨b1, b2⟩ := newB_ok h1
  obtain ⟨w1, w2⟩ := optL_old h5
  obtain ⟨n1, n2⟩ := optL_new h7
  have hnx : (putC s ⟨v, W, N⟩).2.next = s.next + B.length := by show s.next + lenL N = _; rw [lenL_eq, n1]
  have hnd : (W.map (·.1)).Nodup := by rw [w1]; exact changed_nodup _
  have hget : ∀ a, (putC s ⟨v, W, N⟩).2.get a = if s.next ≤ a ∧ a < s.next + B.length then N[a - s.next]? else match W.find? (fun x => x.1 == a) with | some x => some x.2 | none => s.get a := by
    intro a
    show (Tr.ofList (setAll s.heap W) s.next N).get a = _
    rw [Tr.get_ofList, n1, setAll_get _ _ _ hnd]
    rfl
  have hold : ∀ a, a < s.next → (a ∉ changed s y.2 s.next ∧ (putC s ⟨v, W, N⟩).2.get a = s.get a ∧ s.get a = y.2.get a) ∨ ∃ o o0 o1, s.get a = some o ∧ y.2.get a = some o0 ∧ renO s.next B o0 = some o1 ∧ (putC s ⟨v, W, N⟩).2.get a = some o1 := by
    intro a ha
    rw [hget a, if_neg (by omega)]
    by_cases hm : a ∈ changed s y.2 s.next
    · right
      obtain ⟨o, o0, o1, e1, e2, e3, e4⟩ := w2 a hm
      refine ⟨o, o0, o1, e1, e2, e3, ?_⟩
      rw [find_mem hnd e4]
    · left
      refine ⟨hm, ?_, changed_ok ha hm⟩
      have : W.find? (fun x => x.1 == a) = none := by
        rw [List.find?_eq_none]
        intro x hx hxa
        apply hm
        rw [← w1]
        exact List.mem_map.2 ⟨x, hx, by simpa using hxa⟩
      rw [this]
  have hnew : ∀ a, s.next ≤ a → a < s.next + B.length → ∃ b o o0, B[a - s.next]? = some b ∧ backN s.next B a = b ∧ s.next ≤ b ∧ y.2.get b = some o ∧ renO s.next B o = some o0 ∧ (putC s ⟨v, W, N⟩).2.get a = some o0 := by
    intro a h g
    have hb : B[a - s.next]? = some B[a - s.next] := List.getElem?_eq_getElem (by omega)
    obtain ⟨o, o0, e1, e2, e3⟩ := n2 _ _ hb
    refine ⟨_, o, o0, hb, ?_, b1 _ (List.mem_of_getElem? hb), e1, e2, ?_⟩
    · unfold backN
      rw [if_neg (by omega), List.getD_eq_getElem?_getD, hb]
      rfl
    · rw [hget a, if_pos ⟨h, g⟩]; exact e3
  have hback : ∀ a, a < s.next → backN s.next B a = a := fun a h => if_pos h
  refine ⟨backN s.next B, ⟨by rw [hnx]; omega, hback, ?_, ?_, ?_, ?_⟩, ?_⟩
  · intro a o0 ha hl
    rw [hnx]
    rcases Nat.lt_or_ge a s.next with g | g
    · rw [hback a g]
      rcases hold a g with ⟨_, e1, e2⟩ | ⟨o, o1, o2, e1, e2, e3, e4⟩
      · rw [e1] at ha
        refine ⟨o0, by rw [← e2]; exact ha, ?_⟩
        cases o0 with
        | cells cs es md =>
          refine ⟨⟨rfl, fun i x y hx hy => ?_⟩, rfl, rfl⟩
          rw [hx] at hy; cases hy
          exact (hw.cells a cs es md ha x (List.mem_of_getElem? hx)).old (by omega) hback
        | map es c =>
          refine ⟨⟨es, .refl _, .self fun e he => ?_⟩, id⟩
          obtain ⟨k1, k2⟩ := hw.ents a es c ha e he
          exact ⟨k1.old (by omega) hback, k2.old (by omega) hback⟩
        | iter _ _ => exact ⟨rfl, rfl⟩
        | miter _ _ _ _ => exact (hw.plain _ _ _ _ _ ha).elim
        | loop _ _ _ _ _ _ => exact ⟨⟨rfl, rfl, rfl, rfl, rfl, rfl⟩, fun t => (hw.loops _ _ _ _ _ _ _ ha t).old (by omega) hback⟩
        | dead => cases hl
      · rw [e4] at ha; cases ha
        exact ⟨o1, e2, (renO_ok e3).1⟩
    · rcases Nat.lt_or_ge a (s.next + B.length) with g2 | g2
      · obtain ⟨b, o, o1, k1, k2, k3, k4, k5, k6⟩ := hnew a g g2
        rw [k6] at ha; cases ha
        exact ⟨o, by rw [k2]; exact k4, (renO_ok k5).1⟩
      · rw [hget a, if_neg (by omega)] at ha
        have : W.find? (fun x => x.1 == a) = none := by
          rw [List.find?_eq_none]
          intro x hx hxa
          have : a ∈ changed s y.2 s.next := by
            rw [← w1]
            exact List.mem_map.2 ⟨x, hx, by simpa using hxa⟩
          have := changed_lt this
          omega
        rw [this, hw.top a g] at ha
        cases ha
  · intro a a' o o' ha ha' hl hl' hne he
    have top : ∀ a o, (putC s ⟨v, W, N⟩).2.get a = some o → a < s.next + B.length := by
      intro a o ha
      rcases Nat.lt_or_ge a (s.next + B.length) with g2 | g2
      · exact g2
      · rw [hget a, if_neg (by omega)] at ha
        have : W.find? (fun x => x.1 == a) = none := by
          rw [List.find?_eq_none]
          intro x hx hxa
          have : a ∈ changed s y.2 s.next := by
            rw [← w1]
            exact List.mem_map.2 ⟨x, hx, by simpa using hxa⟩
          have := changed_lt this
          omega
        rw [this, hw.top a (by omega)] at ha
        cases ha
    rcases Nat.lt_or_ge a s.next with g | g <;> rcases Nat.lt_or_ge a' s.next with g' | g'
    · rw [hback a g, hback a' g'] at he; exact hne he
    · obtain ⟨b, _, _, _, k2, k3, _⟩ := hnew a' g' (top a' o' ha')
      rw [hback a g, k2] at he; omega
    · obtain ⟨b, _, _, _, k2, k3, _⟩ := hnew a g (top a o ha)
      rw [hback a' g', k2] at he; omega
    · obtain ⟨b, _, _, k1, k2, k3, _⟩ := hnew a g (top a o ha)
      obtain ⟨b', _, _, k1', k2', k3', _⟩ := hnew a' g' (top a' o' ha')
      rw [k2, k2'] at he
      subst he
      have e1 := b2 _ _ k1
      have e2 := b2 _ _ k1'
      rw [e1] at e2
      have := Option.some.inj e2
      omega
  · intro a ha hn
    rcases hold a ha with ⟨_, e1, e2⟩ | ⟨o, o1, o2, e1, e2, e3, e4⟩
    · rw [e1]; exact hn
    · rw [hn] at e1; cases e1
  · intro a ha
    rw [hnx] at ha
    rw [hget a, if_neg (by omega)]
    have : W.find? (fun x => x.1 == a) = none := by
      rw [List.find?_eq_none]
      intro x hx hxa
      have : a ∈ changed s y.2 s.next := by
        rw [← w1]
        exact List.mem_map.2 ⟨x, hx, by simpa using hxa⟩
      have := changed_lt this
      omega
    rw [this, hw.top a (by omega)]
  · rw [hnx]
    exact renV_ok h3
theorem sameWs_eq : ∀ {x y : List (Nat × Ob)}, sameWs x y = true → x = y := by
  intro x
  induction x with
  | nil => intro y h; cases y with
    | nil => rfl
    | cons _ _ => cases h
  | cons a x ih =>
    intro y h
    cases y with
    | nil => cases h
    | cons b y =>
      have h : (Nat.beq a.1 b.1 && sameOb a.2 b.2 && sameWs x y) = true := h
      rw [Bool.and_eq_true, Bool.and_eq_true] at h
      rw [ih h.2, show a = b from Prod.ext (Nat.eq_of_beq_eq_true h.1.1) (sameOb_eq h.1.2)]
theorem sameNs_eq : ∀ {x y : List Ob}, sameNs x y = true → x = y := by
  intro x
  induction x with
  | nil => intro y h; cases y with
    | nil => rfl
    | cons _ _ => cases h
  | cons a x ih =>
    intro y h
    cases y with
    | nil => cases h
    | cons b y =>
      have h : (sameOb a b && sameNs x y) = true := h
      rw [Bool.and_eq_true] at h
      rw [ih h.2, sameOb_eq h.1]
theorem sameC_eq {c d : Canon} (h : sameC c d = true) : c = d := by
  unfold sameC at h
  rw [Bool.and_eq_true, Bool.and_eq_true] at h
  obtain ⟨v, W, N⟩ := c
  obtain ⟨v', W', N'⟩ := d
  rw [show v = v' from same_eq h.1.1, show W = W' from sameWs_eq h.1.2, show N = N' from sameNs_eq h.2]
theorem allCanon_eq {s : St} {c : Canon} {t : List (Value × St)} (h : allCanon s c t = true) : ∀ y ∈ t, canon s y = some c := by
  induction t with
  | nil => simp
  | cons z t ih =>
    have h : (Option.rec false (fun d => cnd (sameC c d) (allCanon s c t) false) (canon s z) : Bool) = true := h
    cases hz : canon s z with
    | none => rw [hz] at h; cases h
    | some d =>
      rw [hz] at h
      have h : cnd (sameC c d) (allCanon s c t) false = true := h
      rw [cnd_eq] at h
      split at h
      · rename_i hs
        intro y hy
        rcases List.mem_cons.1 hy with rfl | hy
        · rw [hz, sameC_eq hs]
        · exact ih h y hy
      · cases h
theorem merge_ok {ι κ : Inj} {base : Nat} {s : St} {w w' : World} {l : List (Value × St)} {out : Value × St} {v' : Value} (r : Rel ι base s w) (hm : out ∈ l) (h : Ext none_ ι base s w κ out.2 w') (hv : VR κ out.1 v') :
    ∃ out ∈ mergeL s l, ∃ κ, Ext none_ ι base s w κ out.2 w' ∧ VR κ out.1 v' := by
  cases l with
  | nil => simp at hm
  | cons x t =>
    cases t with
    | nil =>
      obtain rfl : out = x := by simpa using hm
      exact ⟨out, by show out ∈ [out]; simp, κ, h, hv⟩
    | cons y t =>
      show ∃ out ∈ mergeM s x (y :: t), _
      unfold mergeM
      rw [cnd_eq]
      split
      · rename_i hs
        have := allSame_eq hs
        have e : out = x := by
          rcases List.mem_cons.1 hm with e | e
          · exact e
          · exact this out e
        exact ⟨x, by simp, κ, e ▸ h, e ▸ hv⟩
      · unfold mergeG
        cases hc : canon s x with
        | none => exact ⟨out, hm, κ, h, hv⟩
        | some c =>
          show ∃ out ∈ cnd (allCanon s c (y :: t)) [putC s c] (x :: y :: t), _
          rw [cnd_eq]
          split
          · rename_i hs
            have hco : canon s out = some c := by
              rcases List.mem_cons.1 hm with e | e
              · rw [e]; exact hc
              · exact allCanon_eq hs _ e
            obtain ⟨π, g1, g2⟩ := canon_like r.wf (fun a ha hn => (h.gone a ha id hn).1) hco
            exact ⟨putC s c, by simp, fun a => if a < (putC s c).2.next then κ (π a) else none, Ext.like r h g1 (fun a ha => if_pos ha) (fun a ha => if_neg (Nat.not_lt.2 ha)), hv.ren g2 fun a ha => if_pos ha⟩
          · exact ⟨out, hm, κ, h, hv⟩
end Go.Ev

namespace Go.Ev
open Go (Sem)
section
variable {P : Program} {ι κ : Inj} {w w' : World} {base : Nat} {s s' : St}
theorem Ext.newDead {S : Nat → Prop} (r : Rel ι base s w) (obj : Obj) : Ext S ι base s w (ι.put s.next ⟨w.heap.size, 0, 0, 0⟩) ((s.set s.next .dead).bump 1) { w with heap := w.heap.push obj } := by
  obtain ⟨n1, n2⟩ := r.next s.next (Nat.le_refl _)
  have hle : ι.le (ι.put s.next ⟨w.heap.size, 0, 0, 0⟩) := Inj.le_put _ n2
  have hold : ∀ b, b < w.heap.size → (w.heap.push obj)[b]? = w.heap[b]? := fun b hb => by rw [Array.getElem?_push, if_neg (by omega)]
  have look : ∀ a o, ((s.set s.next .dead).bump 1).get a = some o → live o = true → s.get a = some o ∧ a ≠ s.next := by
    intro a o h hl
    rw [St.get_bump, St.get_set] at h
    by_cases e : s.next = a
    · rw [if_pos e] at h; cases h; cases hl
    · rw [if_neg e] at h; exact ⟨h, fun e2 => e e2.symm⟩
  refine ⟨hle, ⟨?_, ?_, ?_, ?_, ?_, ?_⟩, by simp, ?_, fun b hb _ => hold b hb, ?_, by simp, rfl, rfl, rfl⟩
  · intro a o h hl
    obtain ⟨h1, h2⟩ := look a o h hl
    obtain ⟨B, g1, g2⟩ := r.ob a o h1 hl
    exact ⟨B, hle _ _ g1, (g2.mono hle).block (hold _ (r.blk a B g1))⟩
  · intro a a' o o' B B' h h' hne ho hl hB hB'
    obtain ⟨h1, h2⟩ := look a o h (owned_live ho)
    obtain ⟨h3, h4⟩ := look a' o' h' hl
    rw [Inj.put_ne _ _ h2] at hB
    rw [Inj.put_ne _ _ h4] at hB'
    exact r.sep a a' o o' B B' h1 h3 hne ho hl hB hB'
  · intro a o B h ho hB
    obtain ⟨h1, h2⟩ := look a o h (owned_live ho)
    rw [Inj.put_ne _ _ h2] at hB
    exact r.own a o B h1 ho hB
  · intro a ha
    simp only [St.next_bump, St.next_set] at ha
    obtain ⟨g1, g2⟩ := r.next a (by omega)
    rw [St.get_bump, St.get_set_ne _ _ (by omega), Inj.put_ne _ _ (by omega)]
    exact ⟨g1, g2⟩
  · intro a B hB
    simp only [Array.size_push]
    by_cases e : a = s.next
    · subst e; rw [Inj.put_same] at hB; cases hB; simp
    · rw [Inj.put_ne _ _ e] at hB; have := r.blk a B hB; omega
  · have := r.base_le; simp only [Array.size_push]; omega
  · intro a ha _ g1
    rw [St.get_bump, St.get_set_ne _ _ (by omega), Inj.put_ne _ _ (by omega)]
    exact ⟨g1, id⟩
  · intro a o B h hl hB hlt
    obtain ⟨h1, h2⟩ := look a o h hl
    rw [Inj.put_ne _ _ h2] at hB
    exact ⟨a, o, B, h1, hl, fun h => h, hB, rfl⟩
def Off (κ : Inj) (s : St) (b : Nat) : Prop := ∀ a o B, s.get a = some o → live o = true → κ a = some B → B.b ≠ b
theorem Ext.aside {S : Nat → Prop} {wn : World} (e : Ext S ι base s w κ s' w') {b : Nat} (hb : w.heap.size ≤ b) (hoff : Off κ s' b) (hsz : wn.heap.size = w'.heap.size) (hold : ∀ k, k ≠ b → wn.heap[k]? = w'.heap[k]?)
    (h1 : wn.os = w'.os) (h2 : wn.tape = w'.tape) (h3 : wn.output = w'.output) : Ext S ι base s w κ s' wn := by
  have r := e.rel
  refine ⟨e.le, ⟨?_, r.sep, r.own, r.next, fun a B hB => by rw [hsz]; exact r.blk a B hB, by rw [hsz]; exact r.base_le⟩, e.next, e.gone, ?_, e.img, by rw [hsz]; exact e.size, h1.trans e.os, h2.trans e.tape, h3.trans e.output⟩
  · intro a o ha hl
    obtain ⟨B, g1, g2⟩ := r.ob a o ha hl
    exact ⟨B, g1, g2.block (hold _ (hoff a o B ha hl g1))⟩
  · intro k hk hn
    rw [hold k (by omega)]
    exact e.keep k hk hn
theorem Off.step {S : Nat → Prop} {b : Nat} (h : Off ι s b) (hb : b < w.heap.size) (e : Ext S ι base s w κ s' w') : Off κ s' b := by
  intro a o B ha hl hB he
  obtain ⟨a0, o0, B0, f1, f2, _, f4, f5⟩ := e.img a o B ha hl hB (by omega)
  exact h a0 o0 B0 f1 f2 f4 (by omega)
theorem Off.keeps {S : Nat → Prop} {b : Nat} (h : Off ι s b) (hb : b < w.heap.size) (e : Ext S ι base s w κ s' w') : w'.heap[b]? = w.heap[b]? :=
  e.keep b hb fun a o B ha ho hB he => h a o B ha (owned_live ho) hB he
theorem Ext.grown {S : Nat → Prop} (r : Rel ι base s w) (obj : Obj) : Ext S ι base s w ι s { w with heap := w.heap.push obj } := by
  have hold : ∀ b, b < w.heap.size → (w.heap.push obj)[b]? = w.heap[b]? := fun b hb => by rw [Array.getElem?_push, if_neg (by omega)]
  refine ⟨Inj.le_refl _, ⟨?_, r.sep, r.own, r.next, ?_, ?_⟩, Nat.le_refl _, fun _ _ _ h1 => ⟨h1, id⟩, fun b hb _ => hold b hb, fun a o B h1 h2 h3 _ => ⟨a, o, B, h1, h2, fun h => h, h3, rfl⟩, by simp, rfl, rfl, rfl⟩
  · intro a o h hl
    obtain ⟨B, g1, g2⟩ := r.ob a o h hl
    exact ⟨B, g1, g2.block (hold _ (r.blk a B g1))⟩
  · intro a B hB; have := r.blk a B hB; simp only [Array.size_push]; omega
  · have := r.base_le; simp only [Array.size_push]; omega
theorem Rel.offDef (r : Rel ι base s w) {b : Nat} {d : Option (List Deferred)} (h : w.heap[b]? = some (.deferred d)) : Off ι s b := by
  intro a o B ha hl hB he
  obtain ⟨B', h1, h2⟩ := r.ob a o ha hl
  rw [hB] at h1; cases h1
  subst he
  cases o with
  | cells cs es md => obtain ⟨_, _, _, h3, _⟩ := h2; rw [h] at h3; cases h3
  | map es c => obtain ⟨_, _, h3, _⟩ := h2; rw [h] at h3; cases h3
  | iter _ _ => have h3 := h2.2; rw [h] at h3; cases h3
  | miter _ _ _ _ => exact h2
  | loop _ _ _ _ _ _ => obtain ⟨_, _, h3, _⟩ := h2; rw [h] at h3; cases h3
  | dead => cases hl
theorem Ext.keepDef {S : Nat → Prop} (r : Rel ι base s w) (e : Ext S ι base s w κ s' w') {b : Nat} {d : Option (List Deferred)} (h : w.heap[b]? = some (.deferred d)) : w'.heap[b]? = some (.deferred d) := by
  rw [(r.offDef h).keeps (Array.getElem?_eq_some_iff.1 h).1 e]; exact h
abbrev KeepsDef (w w' : World) : Prop := ∀ (b : Nat) (d : Option (List Deferred)), w.heap[b]? = some (Obj.deferred d) → w'.heap[b]? = some (Obj.deferred d)
def mark (b : Nat) : Deferred := { target := .collected b, args := #[] }
def Marks (lo : Nat) (w' : World) (ds ds' : List Deferred) : Prop := ∃ ms : List Nat, ds' = ms.map mark ++ ds ∧ ms.Nodup ∧ ∀ b ∈ ms, lo ≤ b ∧ w'.heap[b]? = some (.deferred (some []))
theorem Marks.refl {lo : Nat} {w' : World} {ds : List Deferred} : Marks lo w' ds ds := ⟨[], rfl, .nil, by simp⟩
theorem Marks.of {lo : Nat} {w' : World} {ds ds' : List Deferred} (h : ds' = ds) : Marks lo w' ds ds' := h ▸ .refl
theorem Marks.low {lo lo' : Nat} {w' : World} {ds ds' : List Deferred} (h : Marks lo w' ds ds') (hl : lo' ≤ lo) : Marks lo' w' ds ds' := by
  obtain ⟨ms, h1, h2, h3⟩ := h
  exact ⟨ms, h1, h2, fun b hb => ⟨Nat.le_trans hl (h3 b hb).1, (h3 b hb).2⟩⟩
theorem Marks.keep {lo : Nat} {w w' : World} {ds ds' : List Deferred} (h : Marks lo w ds ds') (hk : KeepsDef w w') : Marks lo w' ds ds' := by
  obtain ⟨ms, h1, h2, h3⟩ := h
  exact ⟨ms, h1, h2, fun b hb => ⟨(h3 b hb).1, hk b _ (h3 b hb).2⟩⟩
theorem Marks.trans {lo : Nat} {w w' : World} {ds ds1 ds2 : List Deferred} (h : Marks lo w ds ds1) (hlo : lo ≤ w.heap.size) (hk : KeepsDef w w') (h' : Marks w.heap.size w' ds1 ds2) : Marks lo w' ds ds2 := by
  obtain ⟨ms, h1, h2, h3⟩ := h
  obtain ⟨ns, g1, g2, g3⟩ := h'
  refine ⟨ns ++ ms, by rw [g1, h1]; simp, ?_, ?_⟩
  · rw [List.nodup_append]
    refine ⟨g2, h2, fun a ha b hb hab => ?_⟩
    subst hab
    have k1 := (g3 a ha).1
    have k2 := (Array.getElem?_eq_some_iff.1 (h3 a hb).2).1
    omega
  · intro b hb
    rcases List.mem_append.1 hb with hb | hb
    · exact ⟨Nat.le_trans hlo (g3 b hb).1, (g3 b hb).2⟩
    · exact ⟨(h3 b hb).1, hk b _ (h3 b hb).2⟩
theorem Marks.after {S : Nat → Prop} {lo : Nat} {ds ds1 ds2 : List Deferred} (h : Marks lo w ds ds1) (hlo : lo ≤ w.heap.size) (r : Rel ι base s w) (e : Ext S ι base s w κ s' w') (h' : Marks w.heap.size w' ds1 ds2) : Marks lo w' ds ds2 :=
  h.trans hlo (fun _ _ hb => e.keepDef r hb) h'
theorem Marks.step {S : Nat → Prop} {lo : Nat} {ds ds1 : List Deferred} (h : Marks lo w ds ds1) (r : Rel ι base s w) (e : Ext S ι base s w κ s' w') : Marks lo w' ds ds1 := h.keep fun _ _ hb => e.keepDef r hb
/- Where the call ends, the marks are taken. -/
theorem run_takeDef {b : Nat} (h : w.heap[b]? = some (.deferred (some []))) : (Instr.takeDeferred b).run P w = .ok [] { w with heap := w.heap.setIfInBounds b (.deferred none) } := by
  simp [Instr.takeDeferred, getObj, setObj, Sem.run, h, Result.andThen]
theorem leaves_marks {F : Fence} {n : Nat} {fn : Func} {tmps : Array Value} {R : Ending → World → Prop} : ∀ (ms : List Nat) (w' : World), Ext none_ ι base s w κ s' w' → ms.Nodup → (∀ b ∈ ms, w.heap.size ≤ b ∧ w'.heap[b]? = some (.deferred (some []))) →
    (∀ wn, Ext none_ ι base s w κ s' wn → LeavesIn F n P fn tmps R [] .returning wn) → LeavesInM F n P fn tmps R (ms.map mark) .returning w' := by
  intro ms
  induction ms with
  | nil => intro w' e _ _ h; exact h w' e
  | cons b ms ih =>
    intro w' e hnd hm h
    obtain ⟨hb1, hb2⟩ := hm b (by simp)
    rw [List.nodup_cons] at hnd
    have hne : ∀ k, k ≠ b → ({ w' with heap := w'.heap.setIfInBounds b (.deferred none) } : World).heap[k]? = w'.heap[k]? := by
      intro k hk
      simp only [Array.getElem?_setIfInBounds]
      rw [if_neg (fun h => hk h.symm)]
    have e2 : Ext none_ ι base s w κ s' { w' with heap := w'.heap.setIfInBounds b (.deferred none) } :=
      e.aside hb1 (Rel.offDef e.rel hb2) (by simp) hne rfl rfl rfl
    refine ⟨by simp, .inl ⟨b, _, rfl, run_takeDef hb2, ?_⟩⟩
    refine ih _ e2 hnd.2 (fun c hc => ?_) h
    obtain ⟨h1, h2⟩ := hm c (List.mem_cons_of_mem _ hc)
    exact ⟨h1, by rw [hne c (by rintro rfl; exact hnd.1 hc)]; exact h2⟩
end
end Go.Ev

namespace Go.Ev
open Go (Sem)
def exR : Ex → Exit → Prop
  | .normal, .normal => True
  | .exit i, .exit j => i = j
  | .ret, .ret => True
  | _, _ => False
abbrev RoOk (ro : Option Nat) (c : Code) : Prop := ro = none ∨ noRF c = true
theorem RoOk.seq {ro : Option Nat} {x y : Code} (h : RoOk ro (.seq x y)) : RoOk ro x ∧ RoOk ro y := by
  rcases h with h | h
  · exact ⟨.inl h, .inl h⟩
  · have h : (noRF x && noRF y) = true := h
    rw [Bool.and_eq_true] at h
    exact ⟨.inr h.1, .inr h.2⟩
theorem RoOk.cond {ro : Option Nat} {c : Operand} {x y : Code} (h : RoOk ro (.cond c x y)) : RoOk ro x ∧ RoOk ro y := RoOk.seq (x := x) (y := y) h
def Post (P : Program) (nt : Nat) (ι : Inj) (base : Nat) (s : St) (w : World) (ds : List Deferred) (e : Ex) (fr' : Fr) (s' : St) : Exit → Act → World → Prop := fun x a' w' =>
  exR e x ∧ Marks w.heap.size w' ds a'.defers ∧ ∃ κ, Ext none_ ι base s w κ s' w' ∧ FR κ fr' nt a'.tmps
def DrawGood (P : Program) : Prop :=
  ∀ (nt : Nat) (ops : Array Oper) (rid : Nat) (call : Caller) (round : Rounder), GoodCall P call → NoRound round → ∀ (news : Nat) (cs : List COper), rRegion P nt ops true = .region news cs →
    ∀ (ro : Option Nat) (ι : Inj) (base : Nat) (fr fr' : Fr) (s s' : St) (w : World) (a : Act) (Q : Exit → Act → World → Prop), FR ι fr nt a.tmps → Globs P ι → Rel ι base s w → runOps call round s.next cs fr (s.skip news) = some (fr', s') →
    (∀ κ a' w', Ext none_ ι base s w κ s' w' → FR κ fr' nt a'.tmps → a'.defers = a.defers → Q .normal a' w') → (Code.region rid ops true).wpIn (Wd ro) 0 P Q a w
theorem room_wd {ro : Option Nat} {k : Nat} : (Wd ro).room k := fun d hd => by cases hd
theorem stepR_scope {P : Program} {b : Frame} {a : Act} {k : List Item} {cs : List Frame} {w : World} {c : Code} : step P (lone (b.atR a (.code (.scope c) :: k)) cs w) = .next (lone (b.atR a (.code c :: .inScope c :: k)) cs w) :=
  step_lone_go (by simp [stepG, stepG.exec, Frame.atR])
theorem stepR_inScope {P : Program} {b : Frame} {a : Act} {k : List Item} {cs : List Frame} {w : World} {c : Code} : step P (lone (b.atR a (.inScope c :: k)) cs w) = .next (lone (b.atR a k) cs w) :=
  step_lone_go (by simp [stepG, stepG.exec, Frame.atR])
theorem wpIn_scope {ro : Option Nat} {P : Program} {c : Code} {Q : Exit → Act → World → Prop} {a : Act} {w : World} (h : c.wpIn (Wd ro) 0 P (Exit.noGoto Q) a w) : (Code.scope c).wpIn (Wd ro) 0 P Q a w := by
  intro b k cs hro hb hr
  have s0 : StepsIn (Machine.fenced P (Wd ro)) P (lone (b.atR a (.code (.scope c) :: k)) cs w) (lone (b.atR a (.code c :: .inScope c :: k)) cs w) := .one (fenced_calm (n := 0) hb hr rfl) stepR_scope
  obtain ⟨e, a₁, w₁, hq, harr⟩ := h b (.inScope c :: k) cs hro hb hr
  have hx : ∀ id, exitTo id (.inScope c :: k) = exitTo id k := fun id => by simp [exitTo]
  cases e with
  | normal => exact ⟨.normal, a₁, w₁, hq, .of_steps s0 (StepsIn.trans harr (.one (fenced_calm (n := 0) hb hr rfl) stepR_inScope))⟩
  | exit id => exact ⟨.exit id, a₁, w₁, hq, .of_steps s0 ⟨fun k' hk => harr.1 k' (by rw [hx]; exact hk), fun hr' hk => harr.2 hr' (by rw [hx]; exact hk)⟩⟩
  | goto l => exact hq.elim
  | ret => exact ⟨_, a₁, w₁, hq, .of_steps s0 harr⟩
  | panic ch => exact ⟨_, a₁, w₁, hq, .of_steps s0 harr⟩
  | outgrown => exact ⟨_, a₁, w₁, hq, .of_steps s0 harr⟩
def LoopWp (ro : Option Nat) (P : Program) (c : Code) (Q : Exit → Act → World → Prop) (a : Act) (w : World) : Prop :=
  ∀ (b : Frame) (k : List Item) (cs : List Frame), b.roundOf = ro → ∃ e a' w', Q e a' w' ∧ ArrivesIn (Machine.fenced P (Wd ro)) P (lone (b.atR a (.code c :: .inLoop c :: k)) cs w) b k cs e a' w'
theorem LoopWp.wp {ro : Option Nat} {P : Program} {c : Code} {Q : Exit → Act → World → Prop} {a : Act} {w : World} (h : LoopWp ro P c Q a w) : (Code.loop c).wpIn (Wd ro) 0 P Q a w := by
  intro b k cs hro hb hr
  obtain ⟨e, a', w', hq, harr⟩ := h b k cs hro
  exact ⟨e, a', w', hq, .of_steps (.one (fenced_calm (n := 0) hb hr rfl) stepR_loop) harr⟩
theorem loopWp_round {ro : Option Nat} {P : Program} {c : Code} {Q : Exit → Act → World → Prop} {a : Act} {w : World} (h : c.wpIn (Wd ro) 0 P (Exit.then (LoopWp ro P c Q) Q) a w) : LoopWp ro P c Q a w := by
  intro b k cs hro
  obtain ⟨e, a₁, w₁, hq, harr⟩ := h b (.inLoop c :: k) cs hro trivial room_wd
  cases e with
  | normal =>
    obtain ⟨e₂, a₂, w₂, hq₂, harr₂⟩ := hq b k cs hro
    exact ⟨e₂, a₂, w₂, hq₂, .of_steps (StepsIn.trans harr (.one (fenced_calm (n := 0) trivial room_wd rfl) stepR_inLoop)) harr₂⟩
  | exit id => exact ⟨_, a₁, w₁, hq, .pass (x := .inLoop c) rfl (fun _ _ => .inl (by simp)) harr⟩
  | goto l => exact ⟨_, a₁, w₁, hq, .pass (x := .inLoop c) rfl (fun _ _ => .inl (by simp)) harr⟩
  | ret => exact ⟨_, a₁, w₁, hq, .pass (x := .inLoop c) rfl (fun _ _ => .inl (by simp)) harr⟩
  | panic ch => exact ⟨_, a₁, w₁, hq, .pass (x := .inLoop c) rfl (fun _ _ => .inl (by simp)) harr⟩
  | outgrown => exact ⟨_, a₁, w₁, hq, .pass (x := .inLoop c) rfl (fun _ _ => .inl (by simp)) harr⟩
def Goes (ro : Option Nat) (P : Program) (c : Code) (Q : Exit → Act → World → Prop) (a : Act) (w : World) : Prop := match c with
  | .loop b => LoopWp ro P b Q a w
  | c => c.wpIn (Wd ro) 0 P Q a w
theorem Goes.wp {ro : Option Nat} {P : Program} {c : Code} {Q : Exit → Act → World → Prop} {a : Act} {w : World} (h : Goes ro P c Q a w) : c.wpIn (Wd ro) 0 P Q a w := by
  cases c <;> first | exact h | exact LoopWp.wp h
def PostL (P : Program) (nt : Nat) (ι : Inj) (base : Nat) (s : St) (w : World) (ds : List Deferred) (l : List (Ex × Fr × St)) : Exit → Act → World → Prop := fun x a' w' =>
  ∃ out ∈ l, Post P nt ι base s w ds out.1 out.2.1 out.2.2 x a' w'
theorem PostL.one {P : Program} {nt : Nat} {ι : Inj} {base : Nat} {s : St} {w : World} {ds : List Deferred} {e : Ex} {fr' : Fr} {s' : St} {x : Exit} {a' : Act} {w' : World} (h : Post P nt ι base s w ds e fr' s' x a' w') : PostL P nt ι base s w ds [(e, fr', s')] x a' w' :=
  ⟨(e, fr', s'), by simp, h⟩
def CodeOk (P : Program) (E : Env) (n : Nat) : Prop :=
  ∀ (ro : Option Nat) (nt : Nat) (c : Code) (ι : Inj) (base : Nat) (fr : Fr) (s : St) (w : World) (a : Act) (l : List (Ex × Fr × St)), RoOk ro c → FR ι fr nt a.tmps → Globs P ι → Rel ι base s w → runC E n (rCode P nt c) fr s = some l →
    Goes ro P c (PostL P nt ι base s w a.defers l) a w
def MapGood (P : Program) : Prop :=
  ∀ (E : Env) (n : Nat), CodeOk P E n → GoodCallL P (callF E (runC E n)) → ∀ (nt : Nat) (x y : Code) (c : CCode), rMap P nt x y (rCode P nt y) = some c →
    ∀ (ro : Option Nat) (ι : Inj) (base : Nat) (fr : Fr) (s : St) (w : World) (a : Act) (l : List (Ex × Fr × St)), RoOk ro (.seq x y) → FR ι fr nt a.tmps → Globs P ι → Rel ι base s w → (stepC c).run E (runC E n) fr s = some l →
    (Code.seq x y).wpIn (Wd ro) 0 P (PostL P nt ι base s w a.defers l) a w
def Named (P : Program) : Prop := ∀ (f : FuncId) (fn : Func), P.funcs[f]? = some fn → fn.body.isSome = true → fn.name ≠ "runtime.NumGoroutine"
structure EnvOk (P : Program) (E : Env) : Prop where
  code : ∀ f fn, E.code f = some fn → rFunc P f = some fn
  res : ∀ nt c, E.res nt c = rRound P nt c
  prim : ∀ f p, E.prim f = some p → ∀ (ι : Inj) (base : Nat) (s : St) (w : World) (args args' : List Value) (v : Value) (s' : St), Globs P ι → Rel ι base s w → LR ι args args' → p args s = some (v, s') →
    CallDo P f ⟨args'⟩ w fun v' w' => ∃ κ, Ext none_ ι base s w κ s' w' ∧ VR κ v v'
section
variable {P : Program} {E : Env}
theorem FR.start {ι : Inj} {l m : List Value} (h : LR ι l m) (nt : Nat) : FR ι (Tr.ofList .e 0 l) nt ((⟨m⟩ : Array Value) ++ Array.replicate (nt - (⟨m⟩ : Array Value).size) Go.undef) := by
  refine ⟨by simp; omega, fun t => ?_⟩
  rw [Tr.get_ofList, Array.getD_eq_getD_getElem?, Array.getElem?_append]
  simp only [Nat.zero_le, true_and, Nat.zero_add, Nat.sub_zero]
  have hsz : (⟨m⟩ : Array Value).size = l.length := h.length.symm
  by_cases ht : t < l.length
  · rw [if_pos ht, if_pos (by rw [hsz]; exact ht), arr_get]
    have h1 : l[t]? = some l[t] := List.getElem?_eq_getElem ht
    obtain ⟨y, hy, hv⟩ := h.some h1
    rw [h1, hy]
    exact hv
  · rw [if_neg ht, if_neg (by rw [hsz]; exact ht), Tr.get_e]
    rw [Array.getElem?_replicate]
    split <;> exact .undef
def resSem (tmps : Array Value) : ResultVar → Sem Value
  | .tmp t => pure (tmps.getD t Go.undef)
  | .cell a t => do loadVar t (← Go.asAddr (tmps.getD a Go.undef))
theorem results_eq (fn : Func) (tmps : Array Value) : results fn tmps = (do
    let vs ← fn.results.mapM (resSem tmps)
    pure (if h : vs.size = 1 then vs[0] else .tuple vs)) := by
  unfold results
  congr 1
theorem res_ok {ι : Inj} {base : Nat} {s : St} {w : World} {fr : Fr} {nt : Nat} {tmps : Array Value} (hf : FR ι fr nt tmps) (r : Rel ι base s w) : ∀ (rs : List ResultVar) (cs : List CRes) (l : List Value), rs.mapM (rRes P) = some cs → optL (oneRes fr s) cs = some l →
    ∃ m : List Value, (rs.mapM (resSem tmps)).run P w = .ok m w ∧ LR ι l m := by
  intro rs
  induction rs with
  | nil =>
    intro cs l h1 h2
    simp at h1; subst h1
    cases h2
    exact ⟨[], rfl, .nil⟩
  | cons x rs ih =>
    intro cs l h1 h2
    rw [List.mapM_cons] at h1
    obtain ⟨c, hc, h1⟩ := Option.bind_eq_some_iff.1 h1
    obtain ⟨cs2, hcs, h1⟩ := Option.bind_eq_some_iff.1 h1
    cases h1
    rw [optL_cons] at h2
    obtain ⟨v, hv, h2⟩ := ob_eq.1 h2
    obtain ⟨l2, hl2, h2⟩ := om_eq.1 h2
    subst h2
    obtain ⟨m, hm, hlr⟩ := ih cs2 l2 hcs hl2
    have one : ∃ v', (resSem tmps x).run P w = .ok v' w ∧ VR ι v v' := by
      cases x with
      | tmp t =>
        cases hc
        cases hv
        exact ⟨_, rfl, hf.val t⟩
      | cell ad t =>
        obtain ⟨g, hg, hc⟩ := Option.bind_eq_some_iff.1 hc
        obtain ⟨n, hn, hc⟩ := Option.bind_eq_some_iff.1 hc
        cases hc
        obtain ⟨a0, ha0, hv⟩ := ob_eq.1 (show ob (Ev.asAddr (orUndef (fr.get ad))) (fun a => cnd g (om (s.row a n) fun l => Value.agg ⟨l⟩) (s.cell a)) = some v from hv)
        have hx := hf.val ad
        rw [asAddr_eq ha0] at hx
        obtain ⟨a', hx', ha⟩ := hx.ptrE
        unfold resSem
        simp only [hx']
        cases g with
        | true =>
          obtain ⟨l, hl, hv⟩ := om_eq.1 (show om (s.row a0 n) (fun l => Value.agg ⟨l⟩) = some v from hv)
          subst hv
          obtain ⟨g1, g2, m2, g3, g4⟩ := r.row ha hl
          refine ⟨.agg ⟨m2⟩, ?_, .aggI g2 g3⟩
          have := run_loadCells (P := P) (w := w) (by rw [← g3.length, g1]) g4
          simp [Go.asAddr, loadVar, run_isAgg hg, run_sizeOf hn, Result.andThen, this]
        | false =>
          obtain ⟨v', g1, g2, g3⟩ := r.cell ha (show s.cell a0 = some v from hv)
          refine ⟨v', ?_, g2⟩
          simp [Go.asAddr, loadVar, run_isAgg hg, Result.andThen, load, Sem.run, g1]
    obtain ⟨v', hv1, hv2⟩ := one
    refine ⟨v' :: m, ?_, .cons hv2 hlr⟩
    rw [List.mapM_cons, Sem.run_bind, hv1]
    simp only [Result.andThen]
    rw [Sem.run_bind, hm]
    rfl
theorem tupled_ok {ι : Inj} {l m : List Value} (h : LR ι l m) : VR ι (tupled l) (if h : (⟨m⟩ : Array Value).size = 1 then (⟨m⟩ : Array Value)[0] else .tuple ⟨m⟩) := by
  cases h with
  | nil => exact .tupI .nil
  | cons h t => cases t with
    | nil => exact h
    | cons h2 t2 => exact .tupI (.cons h (.cons h2 t2))
theorem body_goes {ι : Inj} {base : Nat} {s : St} {w : World} {f : FuncId} {fn : CFunc} {n : Nat} (hcode : CodeOk P E n) (hfn : rFunc P f = some fn) {args args' : List Value} {l : List (Value × St)} (hg : Globs P ι) (r : Rel ι base s w) (ha : LR ι args args')
    (h : ended fn (runC E n fn.body (Tr.ofList .e 0 args) s) = some l) :
    Calls P f ⟨args'⟩ w (fun | .returned v', w' => ∃ out ∈ l, ∃ κ, Ext none_ ι base s w κ out.2 w' ∧ VR κ out.1 v' | _, _ => False) ∧ ∃ fn0 b, P.funcs[f]? = some fn0 ∧ fn0.body = some b := by
  unfold rFunc at hfn
  split at hfn
  · rename_i fn0 hf0
    split at hfn
    · rename_i b rs hb hrs
      cases hfn
      obtain ⟨lx, h1, h2⟩ := ob_eq.1 h
      refine ⟨?_, fn0, b, hf0, hb⟩
      refine callsIn_wide.1 (callsIn_of_wp_marks (F := Wd none) (n := 0) hf0 hb trivial (wpIn_mono (Goes.wp (hcode none fn0.ntmps b ι base _ s w _ lx (.inl rfl) (FR.start ha fn0.ntmps) hg r h1)) ?_))
      rintro x a' w' ⟨⟨e, fr', s2⟩, hmem, hx, hd, κ, he, hf'⟩
      obtain ⟨out, hout, h3⟩ := optL_mem h2 _ hmem
      simp only at h3 hx he hf'
      rw [cnd_eq] at h3
      split at h3
      · cases h3
      rename_i hex
      obtain ⟨vs, hl, h4⟩ := om_eq.1 h3
      subst h4
      obtain ⟨ms, m1, m2, m3⟩ := hd
      have m1 : a'.defers = ms.map mark := by rw [m1]; simp
      have fin : LeavesInM (Wd none) 0 P fn0 a'.tmps (fun | .returned v', w' => ∃ out ∈ l, ∃ κ, Ext none_ ι base s w κ out.2 w' ∧ VR κ out.1 v' | _, _ => False) a'.defers .returning w' := by
        rw [m1]
        refine leaves_marks ms w' he m2 m3 fun wn he => ?_
        obtain ⟨m, hm, hlr⟩ := res_ok (P := P) hf' he.rel fn0.results.toList rs vs hrs hl
        have hres : (results fn0 a'.tmps).run P wn = .ok (if h : (⟨m⟩ : Array Value).size = 1 then (⟨m⟩ : Array Value)[0] else .tuple ⟨m⟩) wn := by
          rw [results_eq, Sem.run_bind, Array.mapM_eq_mapM_toList, Sem.run_map, hm]
          rfl
        exact ⟨_, hres, _, hout, κ, he, tupled_ok hlr⟩
      cases e with
      | normal => cases x <;> first | exact fin | exact hx.elim
      | ret => cases x <;> first | exact fin | exact hx.elim
      | exit i => simp [isExit] at hex
    · cases hfn
  · cases hfn
theorem callC_good {n : Nat} (hE : EnvOk P E) (hcode : CodeOk P E n) (hname : Named P) {ι : Inj} {base : Nat} {s : St} {w : World} {f : FuncId} {args args' : List Value} {l : List (Value × St)} (hg : Globs P ι) (r : Rel ι base s w) (ha : LR ι args args')
    (h : callC E (runC E n) f args s = some l) :
    (callFunc f ⟨args'⟩).run P w = .ok (.enter f ⟨args'⟩) w ∧ Calls P f ⟨args'⟩ w fun | .returned v', w' => ∃ out ∈ l, ∃ κ, Ext none_ ι base s w κ out.2 w' ∧ VR κ out.1 v' | _, _ => False := by
  obtain ⟨fn, hfn, h⟩ := ob_eq.1 h
  obtain ⟨l0, h0, h⟩ := ob_eq.1 h
  cases h
  obtain ⟨h1, fn0, b, h2, h3⟩ := body_goes hcode (hE.code f fn hfn) hg r ha h0
  refine ⟨?_, ?_⟩
  · have hn := hname f fn0 h2 (by rw [h3]; rfl)
    simp [callFunc, program, Sem.run, h2, hn, h3, Result.andThen]
  · refine h1.mono fun e w' he => ?_
    cases e with
    | returned v =>
      obtain ⟨out, hm, κ, e1, e2⟩ := he
      exact merge_ok r hm e1 e2
    | _ => exact he.elim
theorem callF_good {n : Nat} (hE : EnvOk P E) (hcode : CodeOk P E n) (hname : Named P) : GoodCallL P (callF E (runC E n)) := by
  intro ι base s w f args args' l hg r ha h
  unfold callF at h
  cases hp : E.prim f with
  | some p =>
    rw [hp] at h
    obtain ⟨⟨v, s'⟩, h1, h2⟩ := om_eq.1 (show om (p args s) (fun r => [r]) = some l from h)
    subst h2
    exact (hE.prim f p hp ι base s w args args' v s' hg r ha h1).mono fun v' w' ⟨κ, e1, e2⟩ => ⟨(v, s'), by simp, κ, e1, e2⟩
  | none =>
    rw [hp] at h
    exact .inr (callC_good hE hcode hname hg r ha h)
end
end Go.Ev

namespace Go.Ev
open Go (Sem)
theorem asLoop_eq {o : Option Ob} {st : Nat} {e : Ex} {fr : Fr} {ps : Nat × List Nat} {a b : Code} (h : asLoop o = some (st, e, fr, ps, a, b)) : o = some (.loop st e fr ps a b) := by
  cases o with
  | none => cases h
  | some o => cases o <;> first | (cases h; done) | (cases h; rfl)
theorem withParams_cons (p : Nat) (ps : List Nat) (v : Value) (vs : List Value) (fr : Fr) : withParams (p :: ps) (v :: vs) fr = withParams ps vs (fr.set p v) := rfl
section
variable {P : Program} {E : Env} {ι κ : Inj} {base : Nat} {s s' : St} {w w' : World} {nt : Nat}
theorem FR.params : ∀ (ps : List Nat) (vs vs' : List Value) (fr : Fr) (tmps : Array Value), LR ι vs vs' → (∀ p ∈ ps, p < nt) → vs.length = ps.length → FR ι fr nt tmps →
    FR ι (withParams ps vs fr) nt ((ps.zip vs').foldl (fun tmps x => tmps.setIfInBounds x.1 x.2) tmps) := by
  intro ps
  induction ps with
  | nil => intro vs vs' fr tmps _ _ _ hf; exact hf
  | cons p ps ih =>
    intro vs vs' fr tmps hv hp hl hf
    cases hv with
    | nil => simp at hl
    | cons h t =>
      rw [withParams_cons, List.zip_cons_cons, List.foldl_cons]
      exact ih _ _ _ _ t (fun q hq => hp q (List.mem_cons_of_mem _ hq)) (by simpa using hl) (hf.set (hp p (by simp)) h)
/- The model's operations. -/
theorem run_getLoop {b : Nat} {r : Go.Loop} (h : w.heap[b]? = some (.loop r)) : (Instr.getLoop b).run P w = .ok r w := by
  simp [Instr.getLoop, getObj, Sem.run, h, Result.andThen]
theorem run_setLoop {b : Nat} {r : Go.Loop} (o : Obj) (h : w.heap[b]? = some (.loop r)) : (setObj b o).run P w = .ok () { w with heap := w.heap.setIfInBounds b o } := by
  simp [setObj, Sem.run, h]
theorem run_begin {b : Nat} {r : Go.Loop} (h : w.heap[b]? = some (.loop r)) (hs : r.state = .ready) : (Instr.beginRound b).run P w = .ok () { w with heap := w.heap.setIfInBounds b (.loop { r with state := .busy }) } := by
  simp [Instr.beginRound, run_getLoop h, run_setLoop _ h, Result.andThen, hs]
theorem run_endRound {b : Nat} {r : Go.Loop} (j : Option Code) (h : w.heap[b]? = some (.loop r)) :
    (Instr.endRound b j).run P w = .ok (.bool j.isNone) { w with heap := w.heap.setIfInBounds b (.loop { r with state := if j.isNone then .ready else .done, pending := j }) } := by
  simp [Instr.endRound, run_getLoop h, run_setLoop _ h, Result.andThen]
theorem run_endLoop {b : Nat} {r : Go.Loop} (h : w.heap[b]? = some (.loop r)) (hs : r.state ≠ .busy) : (Instr.endLoop b).run P w = .ok r.pending { w with heap := w.heap.setIfInBounds b (.loop { r with state := .exhausted }) } := by
  simp [Instr.endLoop, run_getLoop h, run_setLoop _ h, Result.andThen, hs]
theorem Ext.turn (r : Rel ι base s w) {a : Nat} {B : Blk} {st st' : Nat} {e e' : Ex} {fr : Fr} {ps : Nat × List Nat} {asg bd : Code} (hs : s.get a = some (.loop st e fr ps asg bd)) (hB : ι a = some B) {q : Go.Loop} (hq : w.heap[B.b]? = some (.loop q))
    {ls : LoopState} {pn : Option Code} (h1 : loopSt st' ls) (h2 : pendR e' pn) :
    Ext none_ ι base s w ι (s.set a (.loop st' e' fr ps asg bd)) { w with heap := w.heap.setIfInBounds B.b (.loop { q with state := ls, pending := pn }) } := by
  obtain ⟨B', hB', hsh, q', g1, g2, g3, g4, g5, g6, g7, g8⟩ := r.ob a _ hs rfl
  rw [hB] at hB'; cases hB'
  rw [hq] at g1; cases g1
  refine Ext.write r a _ _ B hs rfl hB (by simp) ?_ rfl rfl rfl ?_
  · intro b hb
    simp only [Array.getElem?_setIfInBounds]
    rw [if_neg (fun h => hb h.symm)]
  · refine ⟨hsh, { q with state := ls, pending := pn }, ?_, h1, h2, g4, g5, g6, g7, g8⟩
    simp only [Array.getElem?_setIfInBounds, if_true]
    rw [if_pos (Array.getElem?_eq_some_iff.1 hq).1]
theorem round_good {n : Nat} (hE : EnvOk P E) (hcode : CodeOk P E n) : GoodRoundL P (roundF (runC E n) E.res) := by
  intro ι base s w l B args args' outs hg r hB ha h
  obtain ⟨⟨st, e, fr, ⟨nt, ps⟩, asg, bd⟩, hp, h⟩ := ob_eq.1 (show ob (asLoop (s.get l)) (fun p => must (Nat.beq (lenL args) (lenL p.2.2.2.1.2))
    (ob (runC E n (E.res p.2.2.2.1.1 p.2.2.2.2.1) (withParams p.2.2.2.1.2 args p.2.2.1) s) fun la => bindL la (roundBody (runC E n) (E.res p.2.2.2.1.1 p.2.2.2.2.2) l))) = some outs from h)
  obtain ⟨hlen, h⟩ := must_eq.1 h
  simp only at hlen h
  rw [Nat.beq_eq, lenL_eq, lenL_eq] at hlen
  obtain ⟨la, h1, h2⟩ := ob_eq.1 h
  have hget := asLoop_eq hp
  obtain ⟨B', hB', hsh, q, g1, g2, g3, g4, g5, g6, g7, g8⟩ := r.ob l _ hget rfl
  rw [hB] at hB'; cases hB'
  simp only at g4 g5 g6 g7 g8
  have hres : ∀ c fr0 s0 l0, runC E n (E.res nt c) fr0 s0 = some l0 → noRF c = true ∧ runC E n (rCode P nt c) fr0 s0 = some l0 := by
    intro c fr0 s0 l0 h
    rw [hE.res] at h
    unfold rRound at h
    split at h
    · rename_i hc; exact ⟨hc, h⟩
    · cases n <;> cases h
  obtain ⟨hra, h1⟩ := hres _ _ _ _ h1
  have hf0 := FR.params ps args args' fr q.tmps ha g8 hlen g4
  refine ⟨q.fn, (ps.zip args').foldl (fun tmps x => tmps.setIfInBounds x.1 x.2) q.tmps, asg, bd, ?_, ?_⟩
  · have hsz : (⟨args'⟩ : Array Value).size = q.params.size := by
      rw [← Array.length_toList (xs := q.params), g5, ← hlen]
      exact ha.length.symm
    have hfold : (q.params.zip ⟨args'⟩).foldl (fun tmps (x : Tmp × Value) => tmps.setIfInBounds x.1 x.2) q.tmps = (ps.zip args').foldl (fun tmps x => tmps.setIfInBounds x.1 x.2) q.tmps := by
      rw [← Array.foldl_toList, Array.toList_zip, g5]
    have hsz2 : args'.length = q.params.size := hsz
    simp only [Instr.yield, Sem.run_bind, run_getLoop g1, Result.andThen]
    simp [hsz2, Result.andThen, g6, g7]
    simpa [hsz2] using hfold
  · refine roundIn_of_wpIn (F := Fence.wide) trivial ?_
    show asg.wpIn (Wd (some B.b)) 0 P _ _ w
    refine wpIn_mono (Goes.wp (hcode (some B.b) nt asg ι base _ s w { tmps := _, defers := [] } la (.inr hra) hf0 hg r h1)) ?_
    rintro x1 a1 w1 ⟨⟨e1, f1, s1⟩, hm1, hx1, _, κ, x4, x5⟩
    simp only at hx1 x4 x5
    obtain ⟨lo, k1, k2⟩ := bindL_eq h2 _ hm1
    obtain ⟨hn, k1⟩ := must_eq.1 (show must (isNormal e1) (ob (asLoop (s1.get l)) fun p => must (Nat.beq p.1 0) (ob (runC E n (E.res nt bd) f1 (s1.turn l p 1 p.2.1)) fun lb => optL (roundEnd l) lb)) = some lo from k1)
    cases e1 <;> first | (cases hn; done) | skip
    cases x1 <;> first | exact hx1.elim | skip
    obtain ⟨⟨st1, e1, fr1, ps1, as1, bd1⟩, p1, k1⟩ := ob_eq.1 k1
    obtain ⟨p2, k1⟩ := must_eq.1 k1
    obtain ⟨lb, k3, k4⟩ := ob_eq.1 k1
    simp only at p2 k3
    rw [Nat.beq_eq] at p2
    subst p2
    have hget1 := asLoop_eq p1
    have r1 := x4.rel
    obtain ⟨B1, hB1, hsh1, q1, q2, q3, q4, _⟩ := r1.ob l _ hget1 rfl
    rw [x4.le _ _ hB] at hB1; cases hB1
    have hst : q1.state = .ready := by
      cases hq : q1.state <;> rw [hq] at q3 <;> first | rfl | exact q3.elim
    refine ⟨_, run_begin q2 hst, ?_⟩
    have t1 : Ext none_ κ base s1 w1 κ (s1.turn l (0, e1, fr1, ps1, as1, bd1) 1 e1) { w1 with heap := w1.heap.setIfInBounds B.b (.loop { q1 with state := .busy }) } :=
      Ext.turn r1 hget1 (x4.le _ _ hB) q2 (ls := .busy) (pn := q1.pending) trivial q4
    obtain ⟨hrb, k3⟩ := hres _ _ _ _ k3
    refine wpIn_mono (Goes.wp (hcode (some B.b) nt bd κ base f1 _ _ a1 lb (.inr hrb) x5 (hg.mono x4.le) t1.rel k3)) ?_
    rintro x2 a2 w2 ⟨⟨e2, f2, s2⟩, hm2, hx2, _, μ, y4, y5⟩
    simp only at hx2 y4 y5
    obtain ⟨⟨v, s3⟩, hm3, k5⟩ := optL_mem k4 _ hm2
    obtain ⟨⟨st2, ee2, fr2, ps2, as2, bd2⟩, p3, k6⟩ := om_eq.1 (show om (asLoop (s2.get l)) (fun p => cnd (isNormal e2) (.bool true, s2.turn l p 0 .normal) (.bool false, s2.turn l p 2 e2)) = some (v, s3) from k5)
    have hget2 := asLoop_eq p3
    have r2 := y4.rel
    obtain ⟨B2, hB2, hsh2, q5, q6, q7, q8, _⟩ := r2.ob l _ hget2 rfl
    rw [y4.le _ _ (x4.le _ _ hB)] at hB2; cases hB2
    have e12 : Ext none_ ι base s w μ s2 w2 := x4.trans (t1.trans y4)
    have fin : ∀ (j : Option Code) (st' : Nat), loopSt st' (if j.isNone then .ready else .done) → pendR (cnd (isNormal e2) .normal e2) j → (v, s3) = (.bool j.isNone, s2.turn l (st2, ee2, fr2, ps2, as2, bd2) st' (cnd (isNormal e2) .normal e2)) →
        ∃ v w', (Instr.endRound B.b j).run P w2 = .ok v w' ∧ ∃ out ∈ outs, ∃ κ, Ext none_ ι base s w κ out.2 w' ∧ VR κ out.1 v := by
      intro j st' c1 c2 c3
      refine ⟨_, _, run_endRound j q6, (v, s3), k2 _ hm3, μ, ?_, ?_⟩
      · rw [c3]
        exact e12.trans (Ext.turn r2 hget2 (y4.le _ _ (x4.le _ _ hB)) q6 c1 c2)
      · rw [c3]; exact .bool _
    cases e2 with
    | normal =>
      cases x2 <;> first | exact hx2.elim | skip
      exact fin none 0 trivial trivial k6.symm
    | ret =>
      cases x2 <;> first | exact hx2.elim | skip
      exact fin (some .ret) 2 trivial trivial k6.symm
    | exit i =>
      cases x2 with
      | exit j =>
        have hx2 : i = j := hx2
        subst hx2
        exact fin (some (.exit i)) 2 trivial rfl k6.symm
      | _ => exact hx2.elim
theorem rangeFunc_ok {n : Nat} (hE : EnvOk P E) (hcode : CodeOk P E n) (hname : Named P) {f : Operand} {ps : Array Tmp} {asg bd : Code} {fr : Fr} {a : Act} {l : List (Ex × Fr × St)} (hp : plainX P f = true) (hps : ∀ p ∈ ps.toList, p < nt)
    (hf : FR ι fr nt a.tmps) (hg : Globs P ι) (r : Rel ι base s w) (h : rangeF E (runC E n) (rArg f) nt ps.toList asg bd fr s = some l) :
    (Code.rangeFunc f ps asg bd).wpIn (Wd none) 0 P (PostL P nt ι base s w a.defers l) a w := by
  obtain ⟨⟨fn, first, capt⟩, hfn, h⟩ := ob_eq.1 (show ob (asFunc ((rArg f).ev fr)) (fun p => ob (fnId p.1) fun g => Option.rec (ob (callC E (runC E n) g (appL p.2.1 (.func (.yield s.next) ⟨[]⟩ ⟨[]⟩ :: p.2.2)) ((s.set s.next (.loop 0 .normal fr (nt, ps.toList) asg bd)).bump 1)) fun l => optL (loopEnd fr s.next) l) (fun _ => none) (E.prim g)) = some l from h)
  obtain ⟨g, hgid, h⟩ := ob_eq.1 h
  cases fn <;> first | (cases hgid; done) | skip
  cases hgid
  cases hpr : E.prim g with
  | some p => rw [hpr] at h; cases h
  | none =>
  rw [hpr] at h
  obtain ⟨l0, h1, h2⟩ := ob_eq.1 (show ob (callC E (runC E n) g (appL first (.func (.yield s.next) ⟨[]⟩ ⟨[]⟩ :: capt)) ((s.set s.next (.loop 0 .normal fr (nt, ps.toList) asg bd)).bump 1)) (fun l => optL (loopEnd fr s.next) l) = some l from h)
  rw [appL_eq] at h1
  have hv := arg_ok hf hg hp
  rw [asFunc_eq hfn] at hv
  refine wpIn_rangeFunc fun fid _ => ?_
  generalize hw1 : ({ w with heap := w.heap.push (.deferred (some [])) } : World) = w1
  have e1 : Ext none_ ι base s w ι s w1 := hw1 ▸ Ext.grown r _
  have hw1s : w1.heap.size = w.heap.size + 1 := by rw [← hw1]; simp
  generalize hq : ({ state := .ready, pending := none, fn := fid, tmps := a.tmps, params := ps, assign := asg, body := bd, defers := w.heap.size } : Go.Loop) = q
  have r1 := (Ext.bump (S := none_) e1.rel 1).rel
  have nx := e1.rel.next s.next (Nat.le_refl _)
  have hnew := Ext.new (w' := { w1 with heap := w1.heap.push (.loop q) }) r1 s.next (.loop 0 .normal fr (nt, ps.toList) asg bd) (.loop q) 0 0 (by simp) (by simpa using nx.1) nx.2 rfl rfl rfl rfl rfl (by
    refine ⟨rfl, q, by simp, ?_, ?_, ?_, ?_, ?_, ?_, hps⟩ <;> rw [← hq]
    · trivial
    · trivial
    · exact hf.mono (Inj.le_put _ nx.2))
  generalize hκ : ι.put s.next ⟨w1.heap.size, 0, 0, 0⟩ = κ at hnew
  generalize hw2 : ({ w1 with heap := w1.heap.push (.loop q) } : World) = w2 at hnew
  have e2 : Ext none_ ι base s w κ ((s.set s.next (.loop 0 .normal fr (nt, ps.toList) asg bd)).bump 1) w2 := e1.trans (Ext.atNext hnew)
  have hB : κ s.next = some ⟨w1.heap.size, 0, 0, 0⟩ := by rw [← hκ]; exact Inj.put_same _ _ _
  have hmark : w2.heap[w.heap.size]? = some (.deferred (some [])) := by
    rw [← hw2, ← hw1]
    simp [Array.getElem?_push]
  generalize hF : a.eval f = F at hv
  cases hv with
  | @func _ _ _ fi _ cp hfx ha1 hav hc1 hcv =>
    cases hfx
    have hargs : LR κ (first ++ (.func (.yield s.next) ⟨[]⟩ ⟨[]⟩ :: capt)) (fi ++ (.func (.yield w1.heap.size) ⟨[]⟩ ⟨[]⟩ :: cp)) :=
      ((LR.of ha1 hav).mono e2.le).append (.cons (.func ⟨_, hB, rfl⟩ rfl (by simp) rfl (by simp)) ((LR.of hc1 hcv).mono e2.le))
    obtain ⟨c1, c2⟩ := callC_good hE hcode hname (hg.mono e2.le) e2.rel hargs h1
    refine ⟨w1.heap.size, [mark w.heap.size], w2, { target := .fn (.func g) ⟨cp⟩, args := ⟨fi⟩ ++ #[.func (.yield w1.heap.size) #[] #[]] }, w2, g, ⟨fi ++ (.func (.yield w1.heap.size) ⟨[]⟩ ⟨[]⟩ :: cp)⟩, w2, ?_, ?_, fun _ _ => trivial, ?_, fun h => (by cases h), ?_⟩
    · rw [← hw2, ← hw1, ← hq]
      show (Instr.enterLoop fid a.tmps ps asg bd none).run P w = _
      simp only [Instr.enterLoop, newObj, Sem.run_bind, Sem.run, Result.andThen, mark]
      rfl
    · simp only [resolve, rangeCall, hF]
      simp [Deferred.ofValue, Act.eval]
    · have e3 : (⟨fi⟩ ++ #[.func (.yield w1.heap.size) #[] #[]] : Array Value) ++ ⟨cp⟩ = ⟨fi ++ (.func (.yield w1.heap.size) ⟨[]⟩ ⟨[]⟩ :: cp)⟩ := by apply Array.ext'; simp
      simp only [invoke]
      rw [e3]
      exact c1
    · show CallsIn Fence.wide _ _ _ _ _ _
      refine callsIn_wide.2 (c2.mono fun en w3 he => ?_)
      cases en with
      | returned v =>
        obtain ⟨⟨v0, s3⟩, hm, μ, e4, e5⟩ := he
        simp only at e4
        obtain ⟨y, hy, h3⟩ := optL_mem h2 _ hm
        obtain ⟨⟨st3, ex3, fr3, ps3, as3, bd3⟩, p1, h4⟩ := ob_eq.1 (show ob (asLoop (s3.get s.next)) (fun p => must (!Nat.beq p.1 1) (some (p.2.1, fr, s3.set s.next .dead))) = some y from h3)
        obtain ⟨p2, h4⟩ := must_eq.1 h4
        cases h4
        simp only at p2 hy
        have hget := asLoop_eq p1
        obtain ⟨B3, hB3, hsh3, q3, g1, g2, g3, _⟩ := e4.rel.ob _ _ hget rfl
        rw [e4.le _ _ hB] at hB3; cases hB3
        have g1 : w3.heap[w1.heap.size]? = some (.loop q3) := g1
        have hst : q3.state ≠ .busy := by
          have h2 : st3 ≠ 1 := by
            rintro rfl
            simp at p2
          intro hs
          rw [hs] at g2
          match st3, h2, g2 with
          | 0, _, g2 => exact g2.elim
          | 1, h2, _ => exact absurd rfl h2
          | 2, _, g2 => exact g2.elim
          | (_ + 3), _, g2 => exact g2.elim
        generalize hw4 : ({ w3 with heap := w3.heap.setIfInBounds w1.heap.size (.loop { q3 with state := .exhausted }) } : World) = w4
        have hw4s : w4.heap.size = w3.heap.size := by rw [← hw4]; simp
        have e6 : Ext none_ μ base s3 w3 μ (s3.set s.next .dead) w4 := by
          refine Ext.write e4.rel s.next _ .dead _ hget rfl (e4.le _ _ hB) hw4s ?_ (by rw [← hw4]) (by rw [← hw4]) (by rw [← hw4]) trivial
          intro b hb
          rw [← hw4]
          simp only [Array.getElem?_setIfInBounds]
          rw [if_neg (fun h => hb h.symm)]
        have e7 : Ext none_ ι base s w μ (s3.set s.next .dead) w4 := (e2.trans e4).trans e6
        have hmk : Marks w.heap.size w4 a.defers ([mark w.heap.size] ++ a.defers) := by
          refine ⟨[w.heap.size], rfl, by simp, fun b hb => ?_⟩
          obtain rfl : b = w.heap.size := by simpa using hb
          exact ⟨Nat.le_refl _, e6.keepDef e4.rel (e4.keepDef e2.rel hmark)⟩
        have fin : ∀ xx, exR ex3 xx → PostL P nt ι base s w a.defers l xx { a with defers := [mark w.heap.size] ++ a.defers } w4 :=
          fun xx hx => ⟨_, hy, hx, hmk, μ, e7, hf.mono e7.le⟩
        refine ⟨q3.pending, w4, by rw [← hw4]; exact run_endLoop g1 hst, ?_⟩
        cases ex3 with
        | normal =>
          cases hpn : q3.pending with
          | none => exact fin .normal trivial
          | some c => rw [hpn] at g3; cases c <;> exact g3.elim
        | ret =>
          cases hpn : q3.pending with
          | none => rw [hpn] at g3; exact g3.elim
          | some c =>
            rw [hpn] at g3
            cases c <;> first | exact g3.elim | exact wpIn_ret (fin .ret trivial)
        | exit i =>
          cases hpn : q3.pending with
          | none => rw [hpn] at g3; exact g3.elim
          | some c =>
            rw [hpn] at g3
            cases c <;> first | exact g3.elim | exact wpIn_exit (fin (.exit _) g3)
      | _ => exact he.elim
end
end Go.Ev
