/-
  '==' of structs and arrays whose parts are bools, integers and strings.
-/
import Derived.Test.YticaodbgdjjgdaaGreatDoorEvMisc
set_option linter.unusedVariables false
set_option linter.unusedSimpArgs false
namespace Go.Ev
open Go (Sem)

theorem places_nil {x y : List Value} : placesEq [] x y = some true := rfl
theorem places_cons {p : Nat × CK} {l : List (Nat × CK)} {x y : List Value} : placesEq (p :: l) x y = ob (nthL x p.1) fun a => ob (nthL y p.1) fun b => ob ((cellEq p.2).run a b) fun r => om (placesEq l x y) fun s => r && s := rfl
theorem places_append {a b : List (Nat × CK)} {x y : List Value} {r : Bool} (h : placesEq (a ++ b) x y = some r) : ∃ r1 r2, placesEq a x y = some r1 ∧ placesEq b x y = some r2 ∧ r = (r1 && r2) := by
  induction a generalizing r with
  | nil => exact ⟨true, r, rfl, h, by simp⟩
  | cons p a ih =>
    rw [List.cons_append, places_cons] at h
    obtain ⟨u, hu, h1⟩ := ob_eq.1 h
    obtain ⟨v, hv, h2⟩ := ob_eq.1 h1
    obtain ⟨q, hq, h3⟩ := ob_eq.1 h2
    obtain ⟨t, ht, h4⟩ := om_eq.1 h3
    obtain ⟨r1, r2, g1, g2, rfl⟩ := ih ht
    refine ⟨q && r1, r2, ?_, g2, by rw [← h4, Bool.and_assoc]⟩
    rw [places_cons, hu, ob_some, hv, ob_some, hq, ob_some, g1]; rfl
theorem places_extract {l : List (Nat × CK)} {m off : Nat} (hl : (l.all fun p => decide (p.1 < m)) = true) {xs ys : List Value} {r : Bool} (h : placesEq (shiftL off l) xs ys = some r) : placesEq l ((xs.drop off).take m) ((ys.drop off).take m) = some r := by
  induction l generalizing r with
  | nil => exact h
  | cons p l ih =>
    simp only [List.all_cons, Bool.and_eq_true, decide_eq_true_eq] at hl
    unfold shiftL at h
    rw [List.map_cons, places_cons] at h
    obtain ⟨u, hu, h1⟩ := ob_eq.1 h
    obtain ⟨v, hv, h2⟩ := ob_eq.1 h1
    obtain ⟨q, hq, h3⟩ := ob_eq.1 h2
    obtain ⟨t, ht, h4⟩ := om_eq.1 h3
    have := ih hl.2 ht
    simp only at hu hv hq
    rw [nthL_eq] at hu hv
    have e : ∀ (z : List Value), nthL ((z.drop off).take m) p.1 = z[off + p.1]? := by
      intro z; rw [nthL_eq, List.getElem?_take, if_pos hl.1, List.getElem?_drop]
    rw [places_cons, e, hu, ob_some, e, hv, ob_some, hq, ob_some, this]
    exact congrArg some h4
theorem all_same {α : Type} {p q : α → Bool} {l : List α} (h : ∀ x ∈ l, p x = q x) : l.all p = l.all q := by
  induction l with
  | nil => rfl
  | cons x l ih => rw [List.all_cons, List.all_cons, h x (by simp), ih fun y hy => h y (by simp [hy])]
theorem shift_flatten (o : Nat) (l : List (List (Nat × CK))) : shiftL o l.flatten = (l.map (shiftL o)).flatten := by
  unfold shiftL
  rw [List.map_flatten]
theorem shift_shift (a b : Nat) (l : List (Nat × CK)) : shiftL a (shiftL b l) = shiftL (a + b) l := by
  unfold shiftL
  rw [List.map_map]
  apply List.map_congr_left
  intro p _
  simp [Nat.add_assoc]
theorem shift_nil (a : Nat) : shiftL a [] = [] := rfl

section
variable {P : Program} {w : World}

theorem loop_all {α : Type} (l : List α) (f : α → Option Bool × Unit → Sem (ForInStep (Option Bool × Unit))) (b : α → Bool) (h : ∀ a ∈ l, (f a (none, ())).run P w = .ok (if b a then .yield (none, ()) else .done (some false, ())) w) :
    (forIn l (none, ()) f).run P w = .ok (if l.all b then (none, ()) else (some false, ())) w := by
  induction l with
  | nil => simp [forIn, ForIn.forIn, List.forIn'] <;> rfl
  | cons a l ih =>
    rw [List.forIn_cons, Sem.run_bind, h a (by simp)]
    cases hb : b a with
    | true =>
      simp only [Result.andThen, if_true, List.all_cons, hb, Bool.true_and]
      exact ih fun x hx => h x (by simp [hx])
    | false =>
      simp only [Result.andThen, List.all_cons, hb, Bool.false_and]
      rfl

theorem leaves_ok : ∀ (n : Nat) (t : TypeId) (l : List (Nat × CK)), leaves P n t = some l → ∀ (g : Bool), isAgg? P t = some g → ∀ (m : Nat), sizeOf? P t = some m → (l.all fun p => decide (p.1 < m)) = true → ∀ (d : Nat), n ≤ d → ∀ (xs ys : List Value) (off : Nat) (r : Bool),
    placesEq (shiftL off l) xs ys = some r → ∃ x y, (part t ⟨xs⟩ off).run P w = .ok x w ∧ (part t ⟨ys⟩ off).run P w = .ok y w ∧ (Op.equalIn d t x y).run P w = .ok r w := by
  intro n
  induction n with
  | zero => intro t l h; cases h
  | succ n ih =>
    intro t l h g hg m hm hlt d hd xs ys off r hr
    obtain ⟨d, rfl⟩ : ∃ e, d = e + 1 := ⟨d - 1, by omega⟩
    -- a single cell
    have one : ∀ c : CK, l = [(0, c)] → g = false → ∃ x y, (part t ⟨xs⟩ off).run P w = .ok x w ∧ (part t ⟨ys⟩ off).run P w = .ok y w ∧ (cellEq c).run x y = some r := by
      intro c hl hg'
      subst hl
      subst hg'
      unfold shiftL at hr
      rw [List.map_cons, List.map_nil, places_cons] at hr
      obtain ⟨u, hu, h1⟩ := ob_eq.1 hr
      obtain ⟨v, hv, h2⟩ := ob_eq.1 h1
      obtain ⟨q, hq, h3⟩ := ob_eq.1 h2
      obtain ⟨s, hs, h4⟩ := om_eq.1 h3
      cases hs
      rw [nthL_eq] at hu hv
      simp only [Nat.add_zero] at hu hv
      refine ⟨u, v, ?_, ?_, by rw [hq, ← h4]; simp⟩
      · simp [part, run_isAgg hg, hu, Result.andThen]
      · simp [part, run_isAgg hg, hv, Result.andThen]
    -- what is cut out
    have cut : g = true → ∀ z : List Value, (part t ⟨z⟩ off).run P w = .ok (.agg ⟨(z.drop off).take m⟩) w := by
      intro hg' z
      subst hg'
      simp [part, run_isAgg hg, run_sizeOf hm, Result.andThen, List.extract_eq_take_drop]
    unfold leaves at h
    split at h
    · rename_i hu
      cases h
      obtain ⟨x, y, h1, h2, h3⟩ := one _ rfl (by unfold isAgg? at hg; rw [hu] at hg; cases hg; rfl)
      refine ⟨x, y, h1, h2, ?_⟩
      obtain ⟨a, ha, h4⟩ := ob_eq.1 h3
      obtain ⟨b, hb, h5⟩ := ob_eq.1 h4
      cases h5
      rw [asBool_eq ha, asBool_eq hb, Op.equalIn]
      simp [run_underlying hu, Result.andThen]
    · rename_i k hu
      cases h
      obtain ⟨x, y, h1, h2, h3⟩ := one _ rfl (by unfold isAgg? at hg; rw [hu] at hg; cases hg; rfl)
      refine ⟨x, y, h1, h2, ?_⟩
      obtain ⟨a, ha, h4⟩ := ob_eq.1 h3
      obtain ⟨b, hb, h5⟩ := ob_eq.1 h4
      obtain ⟨hk, h6⟩ := must_eq.1 h5
      cases h6
      rw [kEq_eq] at hk
      have hk : a.1 = b.1 := by simpa using hk
      rw [asInt_eq ha, asInt_eq hb, Op.equalIn, iEq_eq]
      simp only [Sem.run_bind, run_underlying hu, Result.andThen, hk, if_true, Sem.run_pure]
      congr 1
    · rename_i hu
      cases h
      obtain ⟨x, y, h1, h2, h3⟩ := one _ rfl (by unfold isAgg? at hg; rw [hu] at hg; cases hg; rfl)
      refine ⟨x, y, h1, h2, ?_⟩
      obtain ⟨a, ha, h4⟩ := ob_eq.1 h3
      obtain ⟨b, hb, h5⟩ := ob_eq.1 h4
      cases h5
      rw [asStr_eq ha, asStr_eq hb, Op.equalIn, bytesEq_eq]
      simp only [strOf, Sem.run_bind, run_underlying hu, Result.andThen, Sem.run_pure]
      congr 1
      rw [Bool.eq_iff_iff, decide_eq_true_eq]
      constructor
      · intro h
        have h2 : ((⟨a⟩ : Array UInt8) == ⟨b⟩) = true := h
        simpa using h2
      · rintro rfl
        show ((⟨a⟩ : Array UInt8) == ⟨a⟩) = true
        simp
    · -- an array
      rename_i len e hu
      split at h
      · rename_i le me hle hme
        split at h
        · rename_i hall
          cases h
          have hgt : g = true := by unfold isAgg? at hg; rw [hu] at hg; cases hg; rfl
          refine ⟨_, _, cut hgt xs, cut hgt ys, ?_⟩
          have hr2 := places_extract hlt hr
          have hge : ∃ ge, isAgg? P e = some ge := by
            cases n with
            | zero => cases hle
            | succ n =>
              unfold leaves at hle
              unfold isAgg?
              cases hue : P.underlying e with
              | none => rw [hue] at hle; cases hle
              | some u => exact ⟨_, rfl⟩
          obtain ⟨ge, hge⟩ := hge
          -- each element
          have each : ∀ (is : List Nat) (r : Bool), placesEq (is.flatMap fun i => shiftL (i * me) le) ((xs.drop off).take m) ((ys.drop off).take m) = some r → ∃ b : Nat → Bool, r = is.all b ∧ ∀ i ∈ is, placesEq (shiftL (i * me) le) ((xs.drop off).take m) ((ys.drop off).take m) = some (b i) := by
            intro is
            induction is with
            | nil => intro r h; cases h; exact ⟨fun _ => true, rfl, by simp⟩
            | cons i is ih2 =>
              intro r h
              rw [List.flatMap_cons] at h
              obtain ⟨r1, r2, q1, q2, rfl⟩ := places_append h
              obtain ⟨b, rfl, hb⟩ := ih2 r2 q2
              refine ⟨fun j => ((placesEq (shiftL (j * me) le) ((xs.drop off).take m) ((ys.drop off).take m)).getD false), ?_, ?_⟩
              · rw [List.all_cons, q1]
                congr 1
                apply all_same
                intro j hj
                rw [hb j hj]; rfl
              · intro j hj
                show _ = some ((placesEq (shiftL (j * me) le) ((xs.drop off).take m) ((ys.drop off).take m)).getD false)
                rcases List.mem_cons.1 hj with rfl | hj
                · rw [q1]; rfl
                · rw [hb j hj]; rfl
          obtain ⟨b, rfl, hb⟩ := each _ _ hr2
          rw [Op.equalIn]
          simp only [Sem.run_bind, run_underlying hu, Result.andThen, run_sizeOf hme, Std.Legacy.Range.forIn_eq_forIn_range']
          rw [loop_all (b := b)]
          · rw [List.range_eq_range']
            simp only [Std.Legacy.Range.size, Nat.sub_zero, Nat.add_sub_cancel, Nat.div_one]
            cases (List.range' 0 len).all b <;> rfl
          · intro i hi
            have hi' : i ∈ List.range len := by
              simpa [Std.Legacy.Range.size, List.range_eq_range'] using hi
            obtain ⟨x, y, p1, p2, p3⟩ := ih e le hle ge hge me hme hall d (by omega) _ _ _ _ (hb i hi')
            simp only [Sem.run_bind, p1, p2, p3, Result.andThen]
            cases b i <;> rfl
        · cases h
      · cases h
    · -- a struct
      rename_i fs hu
      split at h
      · cases h
      rename_i hst
      obtain ⟨ls, hls, rfl⟩ := Option.map_eq_some_iff.1 h
      have hgt : g = true := by unfold isAgg? at hg; rw [hu] at hg; cases hg; rfl
      refine ⟨_, _, cut hgt xs, cut hgt ys, ?_⟩
      have hr2 := places_extract hlt hr
      generalize hX : (xs.drop off).take m = X at hr2
      generalize hY : (ys.drop off).take m = Y at hr2
      have each : ∀ (fl : List Field) (ls : List (List (Nat × CK))) (r : Bool), fl.mapM (fun (f : Field) => if f.name == "_" then some [] else match leaves P n f.type, sizeOf? P f.type with
        | some l, some m => if l.all fun p => decide (p.1 < m) then some (shiftL f.offset l) else none
        | _, _ => none) = some ls → placesEq ls.flatten X Y = some r →
          ∃ b : Field → Bool, r = fl.all b ∧ ∀ f ∈ fl, (f.name = "_" ∧ b f = true) ∨ (f.name ≠ "_" ∧ ∃ x y, (part f.type ⟨X⟩ f.offset).run P w = .ok x w ∧ (part f.type ⟨Y⟩ f.offset).run P w = .ok y w ∧ (Op.equalIn d f.type x y).run P w = .ok (b f) w) := by
        intro fl
        induction fl with
        | nil => intro ls r h h2; simp at h; subst h; cases h2; exact ⟨fun _ => true, rfl, by simp⟩
        | cons f fl ih2 =>
          intro ls r h h2
          rw [List.mapM_cons] at h
          obtain ⟨lf, hlf, h3⟩ := Option.bind_eq_some_iff.1 h
          obtain ⟨ls2, hls2, h4⟩ := Option.bind_eq_some_iff.1 h3
          cases h4
          rw [List.flatten_cons] at h2
          obtain ⟨r1, r2, q1, q2, rfl⟩ := places_append h2
          obtain ⟨b, rfl, hb⟩ := ih2 ls2 r2 hls2 q2
          -- what holds of the first
          have first : (f.name = "_" ∧ r1 = true) ∨ (f.name ≠ "_" ∧ ∃ x y, (part f.type ⟨X⟩ f.offset).run P w = .ok x w ∧ (part f.type ⟨Y⟩ f.offset).run P w = .ok y w ∧ (Op.equalIn d f.type x y).run P w = .ok r1 w) := by
            split at hlf
            · rename_i hn
              cases hlf
              cases q1
              exact .inl ⟨by simpa using hn, rfl⟩
            · rename_i hn
              right
              refine ⟨by simpa using hn, ?_⟩
              split at hlf
              · rename_i l2 m2 hl2 hm2
                split at hlf
                · rename_i hall
                  cases hlf
                  have hge : ∃ ge, isAgg? P f.type = some ge := by
                    cases n with
                    | zero => cases hl2
                    | succ n =>
                      unfold leaves at hl2
                      unfold isAgg?
                      cases hue : P.underlying f.type with
                      | none => rw [hue] at hl2; cases hl2
                      | some u => exact ⟨_, rfl⟩
                  obtain ⟨ge, hge⟩ := hge
                  exact ih f.type l2 hl2 ge hge m2 hm2 hall d (by omega) X Y f.offset r1 q1
                · cases hlf
              · cases hlf
          classical
          by_cases hmem : f ∈ fl
          · -- it stands there once more: the same
            refine ⟨b, ?_, ?_⟩
            · rw [List.all_cons]
              congr 1
              rcases hb f hmem with ⟨e1, e2⟩ | ⟨e1, x, y, e2, e3, e4⟩
              · rcases first with ⟨_, e⟩ | ⟨e, _⟩
                · rw [e, e2]
                · exact absurd e1 e
              · rcases first with ⟨e, _⟩ | ⟨_, x2, y2, k1, k2, k3⟩
                · exact absurd e e1
                · rw [e2] at k1; cases k1
                  rw [e3] at k2; cases k2
                  rw [e4] at k3; cases k3
                  rfl
            · intro f2 hf2
              rcases List.mem_cons.1 hf2 with rfl | hf2
              · exact hb _ hmem
              · exact hb _ hf2
          · obtain ⟨b2, hb2, hb3⟩ : ∃ b2 : Field → Bool, b2 f = r1 ∧ ∀ f2, f2 ≠ f → b2 f2 = b f2 := ⟨fun f2 => if f2 = f then r1 else b f2, if_pos rfl, fun _ h => if_neg h⟩
            refine ⟨b2, ?_, ?_⟩
            · rw [List.all_cons, hb2]
              congr 1
              apply all_same
              intro f2 hf2
              rw [hb3 f2 (fun e => hmem (e ▸ hf2))]
            · intro f2 hf2
              by_cases e : f2 = f
              · subst e; rw [hb2]; exact first
              · rw [hb3 f2 e]
                exact hb f2 ((List.mem_cons.1 hf2).resolve_left e)
      obtain ⟨b, rfl, hb⟩ := each _ _ _ hls hr2
      rw [Op.equalIn]
      have hst' : P.stoodInHeld t = false := by simpa using hst
      simp only [Sem.run_bind, run_underlying hu, Result.andThen, program, Sem.run, hst']
      rw [if_neg (by simp), Sem.run_bind, ← Array.forIn_toList, loop_all (b := b)]
      · simp only [Result.andThen]
        cases fs.toList.all b <;> rfl
      · intro f hf
        rcases hb f hf with ⟨e1, e2⟩ | ⟨e1, x, y, p1, p2, p3⟩
        · rw [if_neg (by simpa using e1), e2]; rfl
        · rw [if_pos e1]
          simp only [Sem.run_bind, p1, p2, p3, Result.andThen]
          cases b f <;> rfl
    · cases h

theorem cell_real {ι : Inj} {k : CK} {x y x' y' : Value} {r : Bool} (hx : VR ι x x') (hy : VR ι y y') (h : (cellEq k).run x y = some r) : (cellEq k).run x' y' = some r := by
  cases k with
  | skip => exact h
  | int =>
    obtain ⟨a, ha, h1⟩ := ob_eq.1 h
    obtain ⟨b, hb, h2⟩ := ob_eq.1 h1
    have e1 := asInt_eq ha
    have e2 := asInt_eq hb
    rw [e1] at hx; rw [e2] at hy
    rw [hx.intE, hy.intE, ← e1, ← e2]; exact h
  | str =>
    obtain ⟨a, ha, h1⟩ := ob_eq.1 h
    obtain ⟨b, hb, h2⟩ := ob_eq.1 h1
    have e1 := asStr_eq ha
    have e2 := asStr_eq hb
    rw [e1] at hx; rw [e2] at hy
    rw [hx.strE, hy.strE, ← e1, ← e2]; exact h
  | bool =>
    obtain ⟨a, ha, h1⟩ := ob_eq.1 h
    obtain ⟨b, hb, h2⟩ := ob_eq.1 h1
    have e1 := asBool_eq ha
    have e2 := asBool_eq hb
    rw [e1] at hx; rw [e2] at hy
    rw [hx.boolE, hy.boolE, ← e1, ← e2]; exact h
theorem places_real {ι : Inj} {l : List (Nat × CK)} {x y x' y' : List Value} {r : Bool} (hx : LR ι x x') (hy : LR ι y y') (h : placesEq l x y = some r) : placesEq l x' y' = some r := by
  induction l generalizing r with
  | nil => exact h
  | cons p l ih =>
    rw [places_cons] at h
    obtain ⟨u, hu, h1⟩ := ob_eq.1 h
    obtain ⟨v, hv, h2⟩ := ob_eq.1 h1
    obtain ⟨q, hq, h3⟩ := ob_eq.1 h2
    obtain ⟨t, ht, h4⟩ := om_eq.1 h3
    rw [nthL_eq] at hu hv
    obtain ⟨u', hu', ru⟩ := hx.some hu
    obtain ⟨v', hv', rv⟩ := hy.some hv
    rw [places_cons, nthL_eq, hu', ob_some, nthL_eq, hv', ob_some, cell_real ru rv hq, ob_some, ih ht]
    exact congrArg some h4

theorem q_eqCells {ι : Inj} {o : Oper} {ρ : Operand → Value} {op : BinOp} {T yT : TypeId} {x y : Operand} (ho : o.op = .binOp op T x y yT) (hop : op = .eql ∨ op = .neq) {l : List (Nat × CK)} {n : Nat} (hl : leaves P 20 T = some l) (hn : sizeOf? P T = some n) (hg : isAgg? P T = some true)
    (hq : P.eqGuardType P.depth T = false) (hall : (l.all fun p => decide (p.1 < n)) = true) {a b : List Value} (hx : VR ι (.agg ⟨a⟩) (ρ x)) (hy : VR ι (.agg ⟨b⟩) (ρ y)) (ha : a.length = n) (hb : b.length = n) {r : Bool} (h : placesEq l a b = some r) :
    Ok P ι w (execOp ρ o) (tf (negOf op) r) := by
  obtain ⟨_, a', ea, la⟩ := hx.aggE
  obtain ⟨_, b', eb, lb⟩ := hy.aggE
  refine q_eq ho hop ?_ (fun op hop => ?_) ?_
  · rw [ea, eb]
    rcases hop with rfl | rfl <;> simp [eqGuard, program, Sem.run, hq]
  · rw [ea, eb]; rcases hop with rfl | rfl <;> rfl
  · have h0 := places_real la lb h
    have hs : shiftL 0 l = l := by
      unfold shiftL
      conv => rhs; rw [← List.map_id l]
      apply List.map_congr_left
      intro p _
      simp
    obtain ⟨u, v, p1, p2, p3⟩ := leaves_ok (w := w) 20 T l hl true hg n hn hall 10000 (by omega) a' b' 0 r (by rw [hs]; exact h0)
    have cut : ∀ z : List Value, z.length = n → (part T ⟨z⟩ 0).run P w = .ok (.agg ⟨z⟩) w := by
      intro z hz
      have : (z.drop 0).take n = z := by rw [List.drop_zero, ← hz, List.take_length]
      simp only [part, Sem.run_bind, run_isAgg hg, Result.andThen, if_true, run_sizeOf hn, Sem.run_pure]
      congr 2
      apply Array.ext'
      simp [List.extract_eq_take_drop, ← hz]
    rw [cut a' (by rw [← la.length]; exact ha)] at p1
    rw [cut b' (by rw [← lb.length]; exact hb)] at p2
    cases p1; cases p2
    rw [ea, eb]
    exact run_equal p3
end
end Go.Ev
