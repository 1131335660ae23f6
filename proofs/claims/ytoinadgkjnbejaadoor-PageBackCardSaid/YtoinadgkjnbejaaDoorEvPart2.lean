/-
  A machine that runs the program's code, and that what it does the model does; part 2.
  EvCode: Code, and calls.
  EvCls: What classes of operations do to the machine's state.
  EvTrace: A region's run, step by step; what 'before' tells.
  EvPlan: What is checked of a region whose order is open.
  EvDraw: A region whose order is drawn: what holds when some are done.
  EvDraw2: A region whose order is drawn: one more is done.
  EvDraw3: A region whose order is drawn: the step, and the whole.
  EvDraw4: A region whose order is drawn: the whole.
  EvRange1: Ranges over maps: what the model's operations do; a map that is put aside, and taken up again.
  EvRange2: The rounds of a loop over a map.
  EvRange3: The rounds of a loop over a map: each does what the machine does.
  EvRange4: Loops over maps: the whole.
  EvPrim: What functions without a body, and some of the library's, do at once.
  EvExtern: Functions without a body: what they do at once is what the model's entries do.
  EvRow: From a run of the machine to a law's call.
  EvMono: More steps tell the same.
  EvWp: Code that runs in one way: rules for reasoning about it.
  EvLike: A function that the machine runs as is said is a step by itself.
  EvStep: One operation after the other, as equations.
  EvBytes: Rows read cell by cell.
  EvSplit: A function that first asks something of its arguments ('if .. { return .. }'): its run is what it is either way.
  EvFlow: Code that runs in one way, with calls of which it is known what they do.
  EvHeap: Rows that hold what is said: slices that are read, slices that grow; what stands still.
  EvBits: Bytes and numbers: shifts, parts, and numbers in bytes, the highest first.
  EvExtern2: Bytes: looked for, compared.
  EvAct: Operations on rows, told by what they show.
  EvKeep: Temporaries that code does not write stay as they are.
  EvBox: Boxes: rows of cells that are a function's own, read and written.
  EvSim: The equations of the machine's steps, all in one.
  EvShaped: A law's row out of its calls, where the world's shape is asked for too.
  EvArg: An argument of several cells: what its cells are; a block of which nothing is known.
  EvLaid: Arguments whose rows are known: they are read alone.
  EvOpen: Arguments that lead into rows, opened one after the other: rows, and values that lead to them.
  EvAgain: Calls whose order among reads is open: what was read is read again behind them, and is the same.
  EvOwn: Rows that are written through a pointer: what stands in them, and that all else stands still.
  EvSorted: slices.Sorted(maps.Keys(m)): one step, whatever order the keys come in. The contracts of the shelf carry it.
-/
import Derived.Test.YtoinadgkjnbejaaDoorEvPart1
import Derived.Orders
import Derived.OrdersIn
import Derived.Lib.MakeNoZero
import Derived.Lib.Bytealg
import Derived.WalkKit
import Derived.ProofKit
import Derived.OpenShut
import Derived.ShutString
import Derived.ChangeOld
import Derived.Below
import Derived.SizedLaws
import Derived.LaidMore
import Derived.Lay
import Derived.Stop.Joined
import Derived.Deep.Slices
import Derived.ChangeSlices
import Derived.Shelf.SlIterI.Nil
set_option linter.unusedVariables false
set_option linter.unusedSimpArgs false
namespace Go.Ev
open Go (Sem)
section
variable {P : Program} {E : Env}
theorem rRegion_cases (P : Program) (nt : Nat) (ops : Array Oper) (draw : Bool) : (∃ news cs, rRegion P nt ops draw = .region news cs) ∨ (draw = false ∧ ∃ news cs, rRegion P nt ops draw = .many news cs) ∨ rRegion P nt ops draw = .no := by
  unfold rRegion
  split
  · simp only
    split
    · split
      · exact .inl ⟨_, _, rfl⟩
      · exact .inr (.inr rfl)
    · rename_i hd
      split
      · exact .inr (.inl ⟨by simpa using hd, _, _, rfl⟩)
      · exact .inl ⟨_, _, rfl⟩
  · exact .inr (.inr rfl)
theorem Post.trans {nt : Nat} {ι κ : Inj} {base : Nat} {s s1 s' : St} {w w1 : World} {ds ds1 : List Deferred} {e : Ex} {fr' : Fr} {x : Exit} {a' : Act} {w' : World} (h : Ext none_ ι base s w κ s1 w1) (hm : Marks w.heap.size w1 ds ds1) (h2 : Post P nt κ base s1 w1 ds1 e fr' s' x a' w') : Post P nt ι base s w ds e fr' s' x a' w' := by
  obtain ⟨h3, h4, μ, h5, h6⟩ := h2
  exact ⟨h3, hm.after h.size h.rel h5 h4, μ, h.trans h5, h6⟩
theorem PostL.trans {nt : Nat} {ι κ : Inj} {base : Nat} {s s1 : St} {w w1 : World} {ds ds1 : List Deferred} {l l' : List (Ex × Fr × St)} {x : Exit} {a' : Act} {w' : World} (h : Ext none_ ι base s w κ s1 w1) (hm : Marks w.heap.size w1 ds ds1) (hl : ∀ y ∈ l, y ∈ l') (h2 : PostL P nt κ base s1 w1 ds1 l x a' w') : PostL P nt ι base s w ds l' x a' w' := by
  obtain ⟨out, hm2, h3⟩ := h2
  exact ⟨out, hl _ hm2, Post.trans h hm h3⟩
theorem code_ok (hE : EnvOk P E) (hdraw : DrawGood P) (hmap : MapGood P) (hname : Named P) : ∀ n, CodeOk P E n := by
  intro n
  induction n with
  | zero => intro ro nt c ι base fr s w a l hro hf hg r h; cases h
  | succ n ih =>
    have hcall := callF_good hE ih hname
    have hround := round_good hE ih
    intro ro nt c
    induction c with
    | skip =>
      intro ι base fr s w a l hro hf hg r h
      cases h
      exact wpIn_skip (PostL.one ⟨trivial, .refl, ι, Ext.refl r, hf⟩)
    | label lb =>
      intro ι base fr s w a l hro hf hg r h
      cases h
      exact wpIn_label (PostL.one ⟨trivial, .refl, ι, Ext.refl r, hf⟩)
    | region rid ops draw =>
      intro ι base fr s w a l hro hf hg r h
      have h : (stepC (rRegion P nt ops draw)).run E (runC E n) fr s = some l := h
      rcases rRegion_cases P nt ops draw with ⟨news, cs, hr⟩ | ⟨rfl, news, cs, hr⟩ | hr
      · rw [hr] at h
        obtain ⟨⟨f1, s1⟩, h1, h2⟩ := om_eq.1 (show om (runOps (one1 (callF E (runC E n))) noRound s.next cs fr (s.skip news)) (fun r => [(Ex.normal, r.1, r.2)]) = some l from h)
        subst h2
        cases draw with
        | false => exact region_ok hcall.one noRound_no hr hf hg r h1 fun κ a' w' e1 e2 e3 => PostL.one ⟨trivial, .of e3, κ, e1, e2⟩
        | true => exact hdraw nt ops rid _ _ hcall.one noRound_no news cs hr ro ι base fr f1 s s1 w a _ hf hg r h1 fun κ a' w' e1 e2 e3 => PostL.one ⟨trivial, .of e3, κ, e1, e2⟩
      · rw [hr] at h
        obtain ⟨l0, h1, h2⟩ := om_eq.1 (show om (runOpsL (callF E (runC E n)) (roundF (runC E n) E.res) s.next cs fr (s.skip news)) (fun l => mapL (fun r => (Ex.normal, r.1, r.2)) l) = some l from h)
        subst h2
        exact region_okL hcall hround hr hf hg r h1 fun out hout κ a' w' e1 e2 e3 => ⟨(.normal, out.1, out.2), by rw [mapL_eq]; exact List.mem_map.2 ⟨out, hout, rfl⟩, trivial, .of e3, κ, e1, e2⟩
      · rw [hr] at h; cases h
    | seq x y ihx ihy =>
      intro ι base fr s w a l hro hf hg r h
      have h : runC E (n + 1) ((rMap P nt x y (rCode P nt y)).getD (.seq (rCode P nt x) (rCode P nt y))) fr s = some l := h
      cases hm : rMap P nt x y (rCode P nt y) with
      | some c =>
        rw [hm] at h
        exact hmap E n ih hcall nt x y c hm ro ι base fr s w a l hro hf hg r h
      | none =>
        rw [hm] at h
        obtain ⟨lx, h1, h2⟩ := ob_eq.1 (show kSeq (runC E n) (rCode P nt y) (runC E n (rCode P nt x) fr s) = some l from h)
        refine wpIn_seq (wpIn_mono (Goes.wp (ih ro nt x ι base fr s w a lx hro.seq.1 hf hg r h1)) ?_)
        rintro x1 a1 w1 ⟨⟨e1, f1, s1⟩, hmem, g1, g2, κ, g3, g4⟩
        obtain ⟨lo, h3, h4⟩ := bindL_eq h2 _ hmem
        simp only at h3 g1 g3 g4
        rw [cnd_eq] at h3
        cases e1 with
        | normal =>
          cases x1 <;> first | exact g1.elim | skip
          rw [if_pos (show isNormal Ex.normal = true from rfl)] at h3
          have := Goes.wp (ih ro nt y κ base f1 s1 w1 a1 lo hro.seq.2 g4 (hg.mono g3.le) g3.rel h3)
          exact wpIn_mono this fun x2 a2 w2 hp => PostL.trans g3 g2 h4 hp
        | exit i =>
          rw [if_neg (by simp [isNormal])] at h3
          cases h3
          cases x1 <;> first | (simp only [exR] at g1; done) | exact g1.elim | exact ⟨(.exit i, f1, s1), h4 _ (List.mem_singleton.2 rfl), g1, g2, κ, g3, g4⟩
        | ret =>
          rw [if_neg (by simp [isNormal])] at h3
          cases h3
          cases x1 <;> first | exact g1.elim | exact ⟨(.ret, f1, s1), h4 _ (List.mem_singleton.2 rfl), g1, g2, κ, g3, g4⟩
    | cond c x y ihx ihy =>
      intro ι base fr s w a l hro hf hg r h
      have h : runC E (n + 1) (if plainX P c then .cond (rArg c) (rCode P nt x) (rCode P nt y) else .no) fr s = some l := h
      split at h
      · rename_i hp
        obtain ⟨b, hb, h⟩ := ob_eq.1 (show ob (asBool ((rArg c).ev fr)) (fun t => cnd t (runC E n (rCode P nt x) fr s) (runC E n (rCode P nt y) fr s)) = some l from h)
        have hv := arg_ok hf hg hp
        rw [asBool_eq hb] at hv
        refine wpIn_cond hv.boolE ?_
        cases b with
        | true => exact Goes.wp (ih ro nt x ι base fr s w a l hro.cond.1 hf hg r h)
        | false => exact Goes.wp (ih ro nt y ι base fr s w a l hro.cond.2 hf hg r h)
      · cases h
    | block id b ihb =>
      intro ι base fr s w a l hro hf hg r h
      obtain ⟨l0, h1, h2⟩ := om_eq.1 (show kBlock id (runC E n (rCode P nt b) fr s) = some l from h)
      subst h2
      refine wpIn_block (wpIn_mono (Goes.wp (ih ro nt b ι base fr s w a l0 hro hf hg r h1)) ?_)
      rintro x1 a1 w1 ⟨⟨e1, f1, s1⟩, hmem, g1, g2, κ, g3, g4⟩
      have hm2 : blockEx id (e1, f1, s1) ∈ mapL (blockEx id) l0 := by rw [mapL_eq]; exact List.mem_map.2 ⟨_, hmem, rfl⟩
      simp only at g1 g3 g4
      cases e1 with
      | normal => cases x1 <;> first | exact g1.elim | exact ⟨_, hm2, g1, g2, κ, g3, g4⟩
      | ret => cases x1 <;> first | exact g1.elim | exact ⟨_, hm2, g1, g2, κ, g3, g4⟩
      | exit i =>
        cases x1 with
        | exit j =>
          have g1 : i = j := g1
          subst g1
          change (if i = id then _ else _)
          have hbe : blockEx id (Ex.exit i, f1, s1) = if i = id then (Ex.normal, f1, s1) else (Ex.exit i, f1, s1) := by
            show cnd (Nat.beq id i) (Ex.normal, f1, s1) (Ex.exit i, f1, s1) = _
            rw [cnd_eq]
            by_cases hi : i = id
            · subst hi; simp
            · rw [if_neg hi, if_neg (by rw [Nat.beq_eq]; exact fun e => hi e.symm)]
          rw [hbe] at hm2
          split
          · rename_i hi
            rw [if_pos hi] at hm2
            exact ⟨_, hm2, trivial, g2, κ, g3, g4⟩
          · rename_i hi
            rw [if_neg hi] at hm2
            exact ⟨_, hm2, rfl, g2, κ, g3, g4⟩
        | _ => exact g1.elim
    | loop b ihb =>
      intro ι base fr s w a l hro hf hg r h
      obtain ⟨lx, h1, h2⟩ := ob_eq.1 (show kSeq (runC E n) (.loop (rCode P nt b)) (runC E n (rCode P nt b) fr s) = some l from h)
      refine loopWp_round (wpIn_mono (Goes.wp (ih ro nt b ι base fr s w a lx hro hf hg r h1)) ?_)
      rintro x1 a1 w1 ⟨⟨e1, f1, s1⟩, hmem, g1, g2, κ, g3, g4⟩
      obtain ⟨lo, h3, h4⟩ := bindL_eq h2 _ hmem
      simp only at h3 g1 g3 g4
      rw [cnd_eq] at h3
      cases e1 with
      | normal =>
        cases x1 <;> first | exact g1.elim | skip
        rw [if_pos (show isNormal Ex.normal = true from rfl)] at h3
        have hl : LoopWp ro P b (PostL P nt κ base s1 w1 a1.defers lo) a1 w1 := ih ro nt (.loop b) κ base f1 s1 w1 a1 lo hro g4 (hg.mono g3.le) g3.rel h3
        intro bb k cs hro2
        obtain ⟨e2, a2, w2, hq, harr⟩ := hl bb k cs hro2
        exact ⟨e2, a2, w2, PostL.trans g3 g2 h4 hq, harr⟩
      | exit i =>
        rw [if_neg (by simp [isNormal])] at h3
        cases h3
        cases x1 <;> first | exact g1.elim | exact ⟨(.exit i, f1, s1), h4 _ (List.mem_singleton.2 rfl), g1, g2, κ, g3, g4⟩
      | ret =>
        rw [if_neg (by simp [isNormal])] at h3
        cases h3
        cases x1 <;> first | exact g1.elim | exact ⟨(.ret, f1, s1), h4 _ (List.mem_singleton.2 rfl), g1, g2, κ, g3, g4⟩
    | exit id =>
      intro ι base fr s w a l hro hf hg r h
      cases h
      exact wpIn_exit (PostL.one ⟨rfl, .refl, ι, Ext.refl r, hf⟩)
    | ret =>
      intro ι base fr s w a l hro hf hg r h
      cases h
      exact wpIn_ret (PostL.one ⟨trivial, .refl, ι, Ext.refl r, hf⟩)
    | scope b ihb =>
      intro ι base fr s w a l hro hf hg r h
      refine wpIn_scope (wpIn_mono (Goes.wp (ihb ι base fr s w a l hro hf hg r h)) ?_)
      intro x1 a1 w1 hp
      cases x1 with
      | goto lb =>
        obtain ⟨⟨e, _, _⟩, _, hx, _⟩ := hp
        cases e <;> exact hx.elim
      | _ => exact hp
    | rangeFunc f ps x y ihx ihy =>
      intro ι base fr s w a l hro hf hg r h
      have h : runC E (n + 1) (if plainX P f && ps.toList.all fun p => decide (p < nt) then .rangeFunc (rArg f) nt ps.toList x y else .no) fr s = some l := h
      split at h
      · rename_i hp
        rw [Bool.and_eq_true, List.all_eq_true] at hp
        rcases hro with rfl | hro
        · exact rangeFunc_ok hE ih hname hp.1 (fun p hx => by simpa using hp.2 p hx) hf hg r h
        · cases hro
      · cases h
    | _ => intro ι base fr s w a l hro hf hg r h; cases h
end
end Go.Ev

namespace Go.Ev
section
variable {α β γ : Type}
theorem om_ob (x : Option α) (f : α → Option β) (g : β → γ) : om (ob x f) g = ob x fun a => om (f a) g := by cases x <;> rfl
theorem om_om (x : Option α) (f : α → β) (g : β → γ) : om (om x f) g = om x fun a => g (f a) := by cases x <;> rfl
theorem om_must (b : Bool) (x : Option α) (g : α → β) : om (must b x) g = must b (om x g) := by cases b <;> rfl
theorem om_back (s : St) (x : Option Value) (g : Value × St → β) : om (back s x) g = om x fun v => g (v, s) := by cases x <;> rfl
end
theorem back_om (s : St) (x : Option Value) : back s x = om x fun v => (v, s) := rfl
theorem cls_p {c : Cop} (hc : c.cl = .p) (fr : Fr) : ∃ f : Option Value, ∀ s id, (cop c).run fr s id = om f fun v => (v, s) := by
  refine ⟨om ((cop c).run fr ⟨.e, 0⟩ 0) Prod.fst, fun s id => ?_⟩
  cases c <;> first
    | (cases hc; done)
    | (simp only [cop, om_ob, om_om, om_must, om_back, back_om, om_some, cSliceS, cIaddrA, cIaddrV, unit]; done)
    | (simp only [cop, om_ob, om_om, om_must, om_back, back_om, om_some, cSliceS, cIaddrA, cIaddrV, unit]; rfl)
    | skip
  case sliceData x =>
    simp only [cop, cSliceData]
    cases asSl (x.ev fr) with
    | none => rfl
    | some p =>
      obtain ⟨a, n, k⟩ := p
      cases a with
      | none => rfl
      | some a => simp only [ob_some, om_must, om_some]
  all_goals
    simp only [cop]
    cases evL fr _ with
    | nil => rfl
    | cons x r => simp only [om_back, back_om, om_om]
theorem cls_l {c : Cop} (hc : c.cl = .l) (fr : Fr) (s : St) : ∃ f : Option Value, ∀ id, (cop c).run fr s id = om f fun v => (v, s) := by
  refine ⟨om ((cop c).run fr s 0) Prod.fst, fun id => ?_⟩
  cases c <;> first
    | (cases hc; done)
    | (simp only [cop, om_ob, om_om, om_must, om_back, back_om, om_some, cConvBS, cLookup, unit]; done)
    | (simp only [cop, om_ob, om_om, om_must, om_back, back_om, om_some, cConvBS, cLookup, unit]; rfl)
    | skip
  · rename_i neg x y
    simp only [cop, cEqPtr]
    cases asPtr (x.ev fr) with
    | none => rfl
    | some a => cases asPtr (y.ev fr) with
      | none => rfl
      | some b => cases a with
        | none => rfl
        | some a => cases b with
          | none => rfl
          | some b =>
            simp only [ob_some, eqAddr, om_must, om_some]
  · rename_i it
    simp only [cop, cEntryM, om_ob, om_must, om_om]
  · rename_i x
    simp only [cop, cToUnsafe]
    cases asPtr (x.ev fr) with
    | none => rfl
    | some p => cases p with
      | none => rfl
      | some a => simp only [ob_some, om_om]
  · rename_i T n x
    simp only [cop, cOfUnsafe]
    cases asPtr (x.ev fr) with
    | none => rfl
    | some p => cases p with
      | none => rfl
      | some a => simp only [ob_some, om_ob, om_must, om_some]
theorem must_some {α : Type} {b : Bool} {x a : α} (h : must b (some x) = some a) : x = a := by cases b <;> cases h; rfl
theorem om_some_eq {α β : Type} {o : Option α} {f : α → β} {b : β} (h : om o f = some b) : ∃ a, f a = b := let ⟨a, _, h⟩ := om_eq.1 h; ⟨a, h⟩
theorem cls_n {c : Cop} (hc : c.cl = .n) (fr : Fr) (id : Nat) : ∃ f : Option (Value × Ob), (∀ s, (cop c).run fr s id = om f fun p => (p.1, s.set id p.2)) ∧ ∀ p, f = some p → live p.2 = true := by
  cases c with
  | box T x =>
    refine ⟨must (storable (x.ev fr)) (some (ptr id 0, .cells (vcells (x.ev fr)) 0 .ex)), fun s => by simp only [cop, om_must, om_some], fun p h => ?_⟩
    rw [← must_some h]; rfl
  | alloc T z => exact ⟨some (ptr id 0, .cells z (tag T 0) .ex), fun s => rfl, fun p h => by cases h; rfl⟩
  | buildSlice T len z ps =>
    refine ⟨om (fillL (evP fr ps) z) fun l => (.slice (some ⟨id, 0, none⟩) len len, .cells l 0 .ex), fun s => by simp only [cop, om_om], fun p h => ?_⟩
    obtain ⟨_, rfl⟩ := om_some_eq h; rfl
  | convSB T x =>
    refine ⟨ob (asStr (x.ev fr)) fun b => must (Nat.ble (lenL b) room) (some (sl id (lenL b), .cells (mapL ofByte b) 1 .gr)), fun s => by simp only [cop, cConvSB, om_ob, om_must, om_some], fun p h => ?_⟩
    obtain ⟨b, _, h⟩ := ob_eq.1 h
    rw [← must_some h]; rfl
  | mkMap h =>
    refine ⟨must (Option.rec true (fun a => (asInt (Arg.ev a fr)).isSome) h) (some (.map (some id), .map [] 0)), fun s => by simp only [cop, om_must, om_some], fun p h => ?_⟩
    rw [← must_some h]; rfl
  | mkSlice T bytes z l c =>
    refine ⟨ob (asNat (l.ev fr)) fun l => ob (asNat (c.ev fr)) fun c => must (Nat.ble l c) (must (Nat.ble (c * bytes) room) (must (Nat.ble c room) (some (.slice (some ⟨id, 0, none⟩) l c, .cells (zeros c z) 0 .ex)))), fun s => by simp only [cop, cMkSlice, om_ob, om_must, om_some], fun p h => ?_⟩
    obtain ⟨b, _, h⟩ := ob_eq.1 h
    obtain ⟨b, _, h⟩ := ob_eq.1 h
    obtain ⟨_, h⟩ := must_eq.1 h
    obtain ⟨_, h⟩ := must_eq.1 h
    rw [← must_some h]; rfl
  | rangeS x =>
    refine ⟨om (asStr (x.ev fr)) fun b => (ptr id 0, .iter ⟨⟨b⟩⟩ 0), fun s => by simp only [cop, om_om], fun p h => ?_⟩
    obtain ⟨_, rfl⟩ := om_some_eq h; rfl
  | _ => cases hc
end Go.Ev

namespace Go.Ev
open Go (Sem)
noncomputable def wants (x : COper) (fr : Fr) : Bool := Option.rec true (fun g => wanted g fr) x.guard
structure Trace (call : Caller) (round : Rounder) (b : Nat) (L : List COper) (F : Nat → Fr) (T : Nat → St) (V : Nat → Value) : Prop where
  frame : ∀ k x, L[k]? = some x → F (k + 1) = putD (F k) x.dst (V k)
  yes : ∀ k x, L[k]? = some x → wants x (F k) = true → (oneOp x.op).run call round (F k) (T k) (b + x.ix) = some (V k, T (k + 1)) ∧ againOk (F k) (T (k + 1)) x.again = true
  no : ∀ k x, L[k]? = some x → wants x (F k) = false → V k = undef ∧ T (k + 1) = T k
theorem trace_of {call : Caller} {round : Rounder} {b : Nat} : ∀ (L : List COper) (fr fr' : Fr) (s s' : St), runOps call round b L fr s = some (fr', s') →
    ∃ F T V, Trace call round b L F T V ∧ F 0 = fr ∧ T 0 = s ∧ F L.length = fr' ∧ T L.length = s' := by
  intro L
  induction L with
  | nil =>
    intro fr fr' s s' h
    cases h
    exact ⟨fun _ => fr, fun _ => s, fun _ => undef, ⟨fun k x h => by simp at h, fun k x h => by simp at h, fun k x h => by simp at h⟩, rfl, rfl, rfl, rfl⟩
  | cons x L ih =>
    intro fr fr' s s' h
    have h : stepOp call round b x (runOps call round b L) fr s = some (fr', s') := h
    have key : ∃ v s1, runOps call round b L (putD fr x.dst v) s1 = some (fr', s') ∧ (wants x fr = true → (oneOp x.op).run call round fr s (b + x.ix) = some (v, s1) ∧ againOk fr s1 x.again = true) ∧ (wants x fr = false → v = undef ∧ s1 = s) := by
      have hdo : doOp call round b x (runOps call round b L) fr s = some (fr', s') → ∃ v s1, runOps call round b L (putD fr x.dst v) s1 = some (fr', s') ∧ (oneOp x.op).run call round fr s (b + x.ix) = some (v, s1) ∧ againOk fr s1 x.again = true := by
        intro h
        unfold doOp at h
        cases e : (oneOp x.op).run call round fr s (b + x.ix) with
        | none => rw [e] at h; cases h
        | some r =>
          obtain ⟨v, s1⟩ := r
          rw [e] at h
          refine ⟨v, s1, ?_, rfl, ?_⟩
          · cases ea : x.again with
            | nil => rw [ea] at h; exact h
            | cons y ys => rw [ea] at h; exact (must_eq.1 h).2
          · cases ea : x.again with
            | nil => rfl
            | cons y ys => rw [ea] at h; exact (must_eq.1 h).1
      unfold stepOp at h
      unfold wants
      cases eg : x.guard with
      | none =>
        rw [eg] at h
        obtain ⟨v, s1, g1, g2, g3⟩ := hdo h
        exact ⟨v, s1, g1, fun _ => ⟨g2, g3⟩, fun h => by cases h⟩
      | some g =>
        rw [eg] at h
        cases ew : wanted g fr with
        | true =>
          have h : doOp call round b x (runOps call round b L) fr s = some (fr', s') := by
            have h : (Bool.rec (runOps call round b L (putD fr x.dst undef) s) (doOp call round b x (runOps call round b L) fr s) (wanted g fr) : RF) = some (fr', s') := h
            rw [ew] at h; exact h
          obtain ⟨v, s1, g1, g2, g3⟩ := hdo h
          exact ⟨v, s1, g1, fun _ => ⟨g2, g3⟩, fun h => by simp [ew] at h⟩
        | false =>
          have h : (Bool.rec (runOps call round b L (putD fr x.dst undef) s) (doOp call round b x (runOps call round b L) fr s) (wanted g fr) : RF) = some (fr', s') := h
          rw [ew] at h
          exact ⟨undef, s, h, fun h => by simp [ew] at h, fun _ => ⟨rfl, rfl⟩⟩
    obtain ⟨v, s1, h1, h2, h3⟩ := key
    obtain ⟨F, T, V, ht, hF, hT, hF', hT'⟩ := ih _ _ _ _ h1
    refine ⟨fun k => Nat.casesOn k fr F, fun k => Nat.casesOn k s T, fun k => Nat.casesOn k v V, ⟨?_, ?_, ?_⟩, rfl, rfl, hF', hT'⟩
    · intro k y hy
      cases k with
      | zero =>
        simp only [List.getElem?_cons_zero, Option.some.injEq] at hy
        subst hy
        exact hF
      | succ k => exact ht.frame k y (by simpa using hy)
    · intro k y hy hw
      cases k with
      | zero =>
        simp only [List.getElem?_cons_zero, Option.some.injEq] at hy
        subst hy
        have := h2 hw
        show (oneOp x.op).run call round fr s (b + x.ix) = some (v, T 0) ∧ againOk fr (T 0) x.again = true
        rw [hT]; exact this
      | succ k => exact ht.yes k y (by simpa using hy) hw
    · intro k y hy hw
      cases k with
      | zero =>
        simp only [List.getElem?_cons_zero, Option.some.injEq] at hy
        subst hy
        have := h3 hw
        show v = undef ∧ T 0 = s
        rw [hT]; exact this
      | succ k => exact ht.no k y (by simpa using hy) hw
/- before -/
def maskOf (acc : Array Nat) (o : Oper) : Nat := o.after.foldl (fun s e => if Region.binds .any e then s ||| 2 ^ e.on ||| acc.getD e.on 0 else s) 0
theorem before_eq (ops : Array Oper) : Region.before ops = ops.foldl (fun acc o => acc.push (maskOf acc o)) #[] := rfl
theorem mask_bit {acc : Array Nat} {o : Oper} {j : Nat} (h : (maskOf acc o).testBit j = true) : ∃ e ∈ o.after, Region.binds .any e = true ∧ (e.on = j ∨ (acc.getD e.on 0).testBit j = true) := by
  unfold maskOf at h
  rw [← Array.foldl_toList] at h
  have : ∀ (l : List Edge) (s : Nat), (l.foldl (fun s e => if Region.binds .any e then s ||| 2 ^ e.on ||| acc.getD e.on 0 else s) s).testBit j = true → s.testBit j = true ∨ ∃ e ∈ l, Region.binds .any e = true ∧ (e.on = j ∨ (acc.getD e.on 0).testBit j = true) := by
    intro l
    induction l with
    | nil => intro s h; exact .inl h
    | cons e l ih =>
      intro s h
      rw [List.foldl_cons] at h
      rcases ih _ h with h | ⟨e', h1, h2⟩
      · split at h
        · rename_i hb
          rw [Nat.testBit_or, Nat.testBit_or, Bool.or_eq_true, Bool.or_eq_true] at h
          rcases h with (h | h) | h
          · exact .inl h
          · right
            rw [Nat.testBit_two_pow] at h
            exact ⟨e, by simp, hb, .inl (by simpa using h)⟩
          · exact .inr ⟨e, by simp, hb, .inr h⟩
        · exact .inl h
      · exact .inr ⟨e', by simp [h1], h2⟩
  rcases this _ _ h with h | ⟨e, h1, h2⟩
  · simp at h
  · exact ⟨e, by simpa using h1, h2⟩
theorem before_bit {ops : Array Oper} {i j : Nat} (h : ((Region.before ops).getD i 0).testBit j = true) : ∃ o, ops[i]? = some o ∧ ∃ e ∈ o.after, Region.binds .any e = true ∧ (e.on = j ∨ (e.on < i ∧ ((Region.before ops).getD e.on 0).testBit j = true)) := by
  rw [before_eq, ← Array.foldl_toList] at h
  have key : ∀ (l pre : List Oper) (acc : Array Nat), acc.size = pre.length → (∀ k, k < acc.size → ∀ j, (acc.getD k 0).testBit j = true → ∃ o, pre[k]? = some o ∧ ∃ e ∈ o.after, Region.binds .any e = true ∧ (e.on = j ∨ (e.on < k ∧ (acc.getD e.on 0).testBit j = true))) →
      (l.foldl (fun acc o => acc.push (maskOf acc o)) acc).size = (pre ++ l).length ∧ ∀ k, k < (pre ++ l).length → ∀ j, ((l.foldl (fun acc o => acc.push (maskOf acc o)) acc).getD k 0).testBit j = true → ∃ o, (pre ++ l)[k]? = some o ∧ ∃ e ∈ o.after, Region.binds .any e = true ∧ (e.on = j ∨ (e.on < k ∧ ((l.foldl (fun acc o => acc.push (maskOf acc o)) acc).getD e.on 0).testBit j = true)) := by
    intro l
    induction l with
    | nil => intro pre acc h1 h2; simpa [h1] using h2
    | cons o l ih =>
      intro pre acc h1 h2
      have := ih (pre ++ [o]) (acc.push (maskOf acc o)) (by simp [h1]) ?_
      · simpa using this
      · intro k hk j hj
        rw [Array.size_push] at hk
        have hget : ∀ m, m < acc.size → (acc.push (maskOf acc o)).getD m 0 = acc.getD m 0 := by
          intro m hm
          simp [Array.getD_eq_getD_getElem?, Array.getElem?_push, Nat.ne_of_lt hm]
        rcases Nat.lt_or_ge k acc.size with hlt | hge
        · rw [hget k hlt] at hj
          obtain ⟨o', g1, e, g2, g3, g4⟩ := h2 k hlt j hj
          refine ⟨o', by rw [List.getElem?_append_left (by omega)]; exact g1, e, g2, g3, ?_⟩
          rcases g4 with g4 | ⟨g4, g5⟩
          · exact .inl g4
          · exact .inr ⟨g4, by rw [hget _ (by omega)]; exact g5⟩
        · obtain rfl : k = acc.size := by omega
          have : (acc.push (maskOf acc o)).getD acc.size 0 = maskOf acc o := by simp [Array.getD_eq_getD_getElem?]
          rw [this] at hj
          obtain ⟨e, g2, g3, g4⟩ := mask_bit hj
          refine ⟨o, by rw [h1]; simp, e, g2, g3, ?_⟩
          rcases g4 with g4 | g4
          · exact .inl g4
          · rcases Nat.lt_or_ge e.on acc.size with hl | hg
            · exact .inr ⟨hl, by rw [hget _ hl]; exact g4⟩
            · rw [Array.getD_eq_getD_getElem?, Array.getElem?_eq_none hg] at g4
              simp at g4
  obtain ⟨k1, k2⟩ := key ops.toList [] #[] rfl (fun k hk => by simp at hk)
  simp only [List.nil_append, Array.length_toList] at k1 k2
  have hi : i < ops.size := by
    rcases Nat.lt_or_ge i ops.size with h' | h'
    · exact h'
    · rw [Array.getD_eq_getD_getElem?, Array.getElem?_eq_none (by rw [k1]; exact h')] at h
      simp at h
  have := k2 i hi j h
  rw [Array.getElem?_toList] at this
  rw [before_eq, ← Array.foldl_toList]
  exact this
theorem closed_bits {ops : Array Oper} {D : Nat → Prop} (hD : ∀ i o, D i → ops[i]? = some o → ∀ e ∈ o.after, Region.binds .any e = true → D e.on) : ∀ (i j : Nat), D i → ((Region.before ops).getD i 0).testBit j = true → D j := by
  intro i
  induction i using Nat.strongRecOn with
  | _ i ih =>
    intro j hi hj
    obtain ⟨o, h1, e, h2, h3, h4⟩ := before_bit hj
    have := hD i o hi h1 e h2 h3
    rcases h4 with rfl | ⟨h4, h5⟩
    · exact this
    · exact ih e.on h4 j this h5
end Go.Ev

namespace Go.Ev
open Go (Sem)
def Bit (ops : Array Oper) (i j : Nat) : Prop := ((Region.before ops).getD i 0).testBit j = true
structure Plan (P : Program) (nt : Nat) (ops : Array Oper) (L : List COper) (pos : Nat → Nat) : Prop where
  len : L.length = ops.size
  op : ∀ (k : Nat) (x : COper), L[k]? = some x → ∃ o x0, ops[x.ix]? = some o ∧ rOper P nt ops o x.ix = some x0 ∧ x.dst = x0.dst ∧ x.op = x0.op ∧ x.guard = x0.guard ∧ pos x.ix = k
  at_ : ∀ i : Nat, i < ops.size → ∃ x, L[pos i]? = some x ∧ x.ix = i
  lin : ∀ (k k' : Nat) (x x' : COper), L[k]? = some x → L[k']? = some x' → k < k' → ¬ Bit ops x.ix x'.ix
  self : ∀ (k : Nat) (x : COper), L[k]? = some x → ¬ Bit ops x.ix x.ix
  one : ∀ (i j : Nat) (o o' : Oper) (t : Nat), ops[i]? = some o → ops[j]? = some o' → o.dst = some t → o'.dst = some t → i = j
  inside : ∀ (i : Nat) (o : Oper), ops[i]? = some o → ∀ e ∈ o.after, e.on < ops.size
  before : ∀ (i : Nat) (o : Oper) (t : Nat), ops[i]? = some o → t ∈ readsOf ops o → ∀ (j : Nat) (o' : Oper), ops[j]? = some o' → o'.dst = some t → Bit ops i j ∨ (isMove o.op = true ∧ Bit ops j i)
  ww : ∀ (k k' : Nat) (x x' : COper), L[k]? = some x → L[k']? = some x' → x.ix ≠ x'.ix → x.op.cl = .w → x'.op.cl = .w → Bit ops x.ix x'.ix ∨ Bit ops x'.ix x.ix
  nw : ∀ (k k' : Nat) (x x' : COper), L[k]? = some x → L[k']? = some x' → x.ix ≠ x'.ix → x.op.cl = .n → x'.op.cl = .w → k' < k ∨ Bit ops x.ix x'.ix ∨ Bit ops x'.ix x.ix
  lw : ∀ (k k' : Nat) (x x' : COper), L[k]? = some x → L[k']? = some x' → x.ix ≠ x'.ix → x.op.cl = .l → x'.op.cl = .w → k < k' ∨ Bit ops x.ix x'.ix ∨ Bit ops x'.ix x.ix
  ln : ∀ (k k' : Nat) (x x' : COper), L[k]? = some x → L[k']? = some x' → x.ix ≠ x'.ix → x.op.cl = .l → x'.op.cl = .n → k < k' ∨ Bit ops x.ix x'.ix ∨ Bit ops x'.ix x.ix
  again : ∀ (k k' : Nat) (x x' : COper), L[k]? = some x → L[k']? = some x' → x.ix ≠ x'.ix → x.op.cl = .w → x'.op.cl = .l → ¬ Bit ops x.ix x'.ix → ¬ Bit ops x'.ix x.ix → (x'.dst, x'.op, x'.guard) ∈ x.again
theorem distinct_eq {l : List Nat} (h : distinct l = true) : l.Nodup := by
  induction l with
  | nil => exact .nil
  | cons x l ih =>
    simp only [distinct, Bool.and_eq_true, Bool.not_eq_true'] at h
    rw [List.nodup_cons]
    exact ⟨by simpa using h.1, ih h.2⟩
theorem mapM_get {α β : Type} {f : α → Option β} : ∀ {l : List α} {m : List β}, l.mapM f = some m → m.length = l.length ∧ ∀ (k : Nat) (a : α), l[k]? = some a → ∃ b, m[k]? = some b ∧ f a = some b := by
  intro l
  induction l with
  | nil => intro m h; simp at h; subst h; simp
  | cons x l ih =>
    intro m h
    rw [List.mapM_cons] at h
    obtain ⟨y, hy, h⟩ := Option.bind_eq_some_iff.1 h
    obtain ⟨ys, hys, h⟩ := Option.bind_eq_some_iff.1 h
    cases h
    obtain ⟨h1, h2⟩ := ih hys
    refine ⟨by simp [h1], ?_⟩
    intro k a ha
    cases k with
    | zero => simp only [List.getElem?_cons_zero, Option.some.injEq] at ha; subst ha; exact ⟨y, by simp, hy⟩
    | succ k =>
      obtain ⟨b, h3, h4⟩ := h2 k a (by simpa using ha)
      exact ⟨b, by simpa using h3, h4⟩
theorem once_eq {ops : Array Oper} (h : once ops (Region.before ops) = true) :
    (∀ (i j : Nat) (o o' : Oper) (t : Nat), ops[i]? = some o → ops[j]? = some o' → o.dst = some t → o'.dst = some t → i = j) ∧
    (∀ (i : Nat) (o : Oper) (t : Nat), ops[i]? = some o → t ∈ readsOf ops o → ∀ (j : Nat) (o' : Oper), ops[j]? = some o' → o'.dst = some t → Bit ops i j ∨ (isMove o.op = true ∧ Bit ops j i)) ∧
    (∀ (i : Nat) (o : Oper), ops[i]? = some o → ∀ e ∈ o.after, e.on < ops.size) := by
  unfold once at h
  rw [Bool.and_eq_true, Bool.and_eq_true] at h
  obtain ⟨⟨h1, h2⟩, h3⟩ := h
  refine ⟨?_, ?_, fun i o hi e he => ?_⟩
  rotate_left 2
  · have h4 := List.all_eq_true.1 h3 o (by rw [List.mem_iff_getElem?]; exact ⟨i, by rw [Array.getElem?_toList]; exact hi⟩)
    have h5 := List.all_eq_true.1 h4 e (by simpa using he)
    simpa using h5
  · have hnd := distinct_eq h1
    have key : ∀ (l : List Oper), (l.filterMap (·.dst)).Nodup → ∀ (i j : Nat) (o o' : Oper) (t : Nat), l[i]? = some o → l[j]? = some o' → o.dst = some t → o'.dst = some t → i = j := by
      intro l
      induction l with
      | nil => intro _ i j o o' t h; simp at h
      | cons x l ih =>
        intro hn i j o o' t hi hj ho ho'
        have hn2 : (l.filterMap (·.dst)).Nodup := by
          rw [List.filterMap_cons] at hn
          split at hn
          · exact hn
          · exact (List.nodup_cons.1 hn).2
        have clash : ∀ (k : Nat) (o2 : Oper), x.dst = some t → l[k]? = some o2 → o2.dst = some t → False := by
          intro k o2 hx hk ho2
          rw [List.filterMap_cons, hx] at hn
          exact (List.nodup_cons.1 hn).1 (List.mem_filterMap.2 ⟨o2, List.mem_of_getElem? hk, ho2⟩)
        cases i with
        | zero =>
          cases j with
          | zero => rfl
          | succ j =>
            simp only [List.getElem?_cons_zero, Option.some.injEq] at hi
            subst hi
            exact (clash j o' ho (by simpa using hj) ho').elim
        | succ i =>
          cases j with
          | zero =>
            simp only [List.getElem?_cons_zero, Option.some.injEq] at hj
            subst hj
            exact (clash i o ho' (by simpa using hi) ho).elim
          | succ j =>
            rw [ih hn2 i j o o' t (by simpa using hi) (by simpa using hj) ho ho']
    intro i j o o' t hi hj
    exact key ops.toList hnd i j o o' t (by rw [Array.getElem?_toList]; exact hi) (by rw [Array.getElem?_toList]; exact hj)
  · intro i o t hi ht j o' hj hd
    have mem : ∀ (k : Nat) (q : Oper), ops[k]? = some q → (q, k) ∈ ops.toList.zipIdx := by
      intro k q hq
      rw [List.mem_iff_getElem?]
      refine ⟨k, ?_⟩
      rw [List.getElem?_zipIdx, Array.getElem?_toList, hq]
      simp
    have h3 := List.all_eq_true.1 h2 _ (mem i o hi)
    have h4 := List.all_eq_true.1 h3 t ht
    have h5 := List.all_eq_true.1 h4 _ (mem j o' hj)
    simp only [hd, bne_self_eq_false, Bool.false_or, Bool.or_eq_true, Bool.and_eq_true] at h5
    exact h5
theorem plan_good {P : Program} {nt : Nat} {ops : Array Oper} {l L : List COper} {order : List Nat} {pos : Nat → Nat} (hl : ops.toList.zipIdx.mapM (fun (o, i) => rOper P nt ops o i) = some l) (ho : once ops (Region.before ops) = true)
    (hg : good ops (Region.before ops) l.toArray order pos = true) (hL : look (Region.before ops) l.toArray order = some L) : Plan P nt ops L pos := by
  obtain ⟨hl1, hl2⟩ := mapM_get hl
  rw [List.length_zipIdx, Array.length_toList] at hl1
  have hsz : l.toArray.size = ops.size := by rw [List.size_toArray]; exact hl1
  have hop : ∀ (i : Nat) (x0 : COper), l[i]? = some x0 → ∃ o, ops[i]? = some o ∧ rOper P nt ops o i = some x0 ∧ x0.ix = i := by
    intro i x0 hx
    have hi : i < ops.size := by
      have h1 := (List.getElem?_eq_some_iff.1 hx).1
      have h2 : l.length = ops.size := by rw [← hsz, List.size_toArray]
      exact h2 ▸ h1
    obtain ⟨b, h1, h2⟩ := hl2 i (ops[i], i) (by rw [List.getElem?_zipIdx, Array.getElem?_toList, Array.getElem?_eq_getElem hi]; simp)
    rw [hx] at h1
    cases h1
    obtain ⟨_, _, e, _⟩ := rOper_eq h2
    exact ⟨ops[i], Array.getElem?_eq_getElem hi, h2, by rw [e]⟩
  unfold good at hg
  rw [Bool.and_eq_true, Bool.and_eq_true, hsz] at hg
  obtain ⟨⟨g1, g2⟩, g3⟩ := hg
  unfold isOrder at g1
  simp only [Bool.and_eq_true, beq_iff_eq] at g1
  obtain ⟨⟨o1, o2⟩, o3⟩ := g1
  unfold isPos at g2
  rw [Bool.and_eq_true] at g2
  obtain ⟨p1, p2⟩ := g2
  obtain ⟨k1, k2⟩ := mapM_get hL
  have pmem : ∀ k i : Nat, order[k]? = some i → pos i = k ∧ i < ops.size := by
    intro k i hk
    have := List.all_eq_true.1 p1 (i, k) (by rw [List.mem_iff_getElem?]; exact ⟨k, by rw [List.getElem?_zipIdx, hk]; simp⟩)
    simp only [Bool.and_eq_true, beq_iff_eq, decide_eq_true_eq] at this
    exact this
  have pat : ∀ i : Nat, i < ops.size → order[pos i]? = some i := by
    intro i hi
    have := List.all_eq_true.1 p2 i (List.mem_range.2 hi)
    simpa using this
  have hat : ∀ (k : Nat) (x : COper), L[k]? = some x → ∃ i x0, order[k]? = some i ∧ l[i]? = some x0 ∧ x.ix = i ∧ x.dst = x0.dst ∧ x.op = x0.op ∧ x.guard = x0.guard ∧
      (x.op.cl = .w → x.again = (List.range l.toArray.size).filterMap fun i => (l.toArray[i]?).bind fun c => if c.op.cl == .l && apart (Region.before ops) i x.ix then some (c.dst, c.op, c.guard) else none) := by
    intro k x hx
    have hk : k < order.length := by rw [← k1]; exact (List.getElem?_eq_some_iff.1 hx).1
    obtain ⟨y, h1, h2⟩ := k2 k order[k] (List.getElem?_eq_getElem hk)
    rw [hx] at h1
    cases h1
    obtain ⟨x0, h3, h4⟩ := Option.map_eq_some_iff.1 h2
    rw [List.getElem?_toArray] at h3
    obtain ⟨_, _, _, hix⟩ := hop _ _ h3
    refine ⟨order[k], x0, List.getElem?_eq_getElem hk, h3, ?_⟩
    subst h4
    split
    · rename_i hw
      refine ⟨hix, rfl, rfl, rfl, fun _ => ?_⟩
      simp only [hix]
    · rename_i hw
      exact ⟨hix, rfl, rfl, rfl, fun h => absurd h hw⟩
  have hL' : ∀ i : Nat, i < ops.size → ∃ x, L[pos i]? = some x ∧ x.ix = i := by
    intro i hi
    have h1 := pat i hi
    have hlt : pos i < L.length := by rw [k1]; exact (List.getElem?_eq_some_iff.1 h1).1
    refine ⟨L[pos i], List.getElem?_eq_getElem hlt, ?_⟩
    obtain ⟨i', x0, h2, _, h3, _⟩ := hat _ _ (List.getElem?_eq_getElem hlt)
    rw [h1] at h2; cases h2
    exact h3
  have hclass : ∀ (k : Nat) (x : COper), L[k]? = some x → x.ix < ops.size ∧ pos x.ix = k ∧ (l.toArray.map (·.op.cl)).getD x.ix .p = x.op.cl := by
    intro k x hx
    obtain ⟨i, x0, h1, h2, h3, h4, h5, h6, _⟩ := hat k x hx
    obtain ⟨h7, h8⟩ := pmem k i h1
    subst h3
    refine ⟨h8, h7, ?_⟩
    rw [Array.getD_eq_getD_getElem?, Array.getElem?_map, List.getElem?_toArray, h2, h5]
    rfl
  have hfine : ∀ (k k' : Nat) (x x' : COper), L[k]? = some x → L[k']? = some x' → x.ix ≠ x'.ix → x.op.cl ≠ .p → x'.op.cl ≠ .p → (match x.op.cl, x'.op.cl with
      | .w, .w => !apart (Region.before ops) x.ix x'.ix
      | .n, .w => decide (k' < k) || !apart (Region.before ops) x.ix x'.ix
      | .l, .w => decide (k < k') || !apart (Region.before ops) x.ix x'.ix
      | .l, .n => decide (k < k') || !apart (Region.before ops) x.ix x'.ix
      | _, _ => true) = true := by
    intro k k' x x' hx hx' hne hp hp'
    obtain ⟨c1, c2, c3⟩ := hclass k x hx
    obtain ⟨c1', c2', c3'⟩ := hclass k' x' hx'
    have loud : ∀ (y : COper), y.ix < ops.size → (l.toArray.map (·.op.cl)).getD y.ix .p = y.op.cl → y.op.cl ≠ .p → y.ix ∈ (List.range ops.size).filter fun i => (l.toArray.map (·.op.cl)).getD i .p != .p := by
      intro y h1 h2 h3
      rw [List.mem_filter]
      refine ⟨List.mem_range.2 h1, ?_⟩
      rw [h2]
      cases e : y.op.cl <;> first | exact absurd e h3 | rfl
    have h1 := List.all_eq_true.1 g3 x.ix (loud x c1 c3 hp)
    have h2 := List.all_eq_true.1 h1 x'.ix (loud x' c1' c3' hp')
    rw [c3, c3'] at h2
    simp only [c2, c2'] at h2
    rw [Bool.or_eq_true] at h2
    rcases h2 with h2 | h2
    · exact absurd (by simpa using h2) hne
    · exact h2
  have hap : ∀ i j, apart (Region.before ops) i j = false → Bit ops i j ∨ Bit ops j i := by
    intro i j h
    unfold apart at h
    unfold Bit
    cases h1 : ((Region.before ops).getD i 0).testBit j
    · cases h2 : ((Region.before ops).getD j 0).testBit i
      · rw [h1, h2] at h; cases h
      · exact .inr rfl
    · exact .inl rfl
  obtain ⟨one1, one2, one3⟩ := once_eq ho
  refine ⟨by rw [k1]; exact o1, ?_, hL', ?_, ?_, one1, one3, one2, ?_, ?_, ?_, ?_, ?_⟩
  · intro k x hx
    obtain ⟨i, x0, h1, h2, h3, h4, h5, h6, _⟩ := hat k x hx
    obtain ⟨o, h7, h8, _⟩ := hop i x0 h2
    subst h3
    exact ⟨o, x0, h7, h8, h4, h5, h6, (pmem k _ h1).1⟩
  · intro k k' x x' hx hx' hlt hbit
    obtain ⟨i, x0, h1, _, h3, _⟩ := hat k x hx
    obtain ⟨i', x0', h1', _, h3', _⟩ := hat k' x' hx'
    subst h3; subst h3'
    have := List.all_eq_true.1 o3 (x.ix, k) (by rw [List.mem_iff_getElem?]; exact ⟨k, by rw [List.getElem?_zipIdx, h1]; simp⟩)
    have := List.all_eq_true.1 this x'.ix (by
      rw [List.mem_iff_getElem?]
      exact ⟨k' - k, by rw [List.getElem?_drop, show k + (k' - k) = k' by omega]; exact h1'⟩)
    unfold Bit at hbit
    rw [hbit] at this
    cases this
  · intro k x hx hbit
    obtain ⟨i, x0, h1, _, h3, _⟩ := hat k x hx
    subst h3
    have := List.all_eq_true.1 o3 (x.ix, k) (by rw [List.mem_iff_getElem?]; exact ⟨k, by rw [List.getElem?_zipIdx, h1]; simp⟩)
    have := List.all_eq_true.1 this x.ix (by
      rw [List.mem_iff_getElem?]
      exact ⟨0, by rw [List.getElem?_drop, Nat.add_zero]; exact h1⟩)
    unfold Bit at hbit
    rw [hbit] at this
    cases this
  · intro k k' x x' hx hx' hne h1 h2
    have := hfine k k' x x' hx hx' hne (by rw [h1]; simp) (by rw [h2]; simp)
    rw [h1, h2] at this
    exact hap _ _ (by simpa using this)
  · intro k k' x x' hx hx' hne h1 h2
    have := hfine k k' x x' hx hx' hne (by rw [h1]; simp) (by rw [h2]; simp)
    rw [h1, h2] at this
    simp only [Bool.or_eq_true, decide_eq_true_eq, Bool.not_eq_true'] at this
    exact this.imp id (hap _ _)
  · intro k k' x x' hx hx' hne h1 h2
    have := hfine k k' x x' hx hx' hne (by rw [h1]; simp) (by rw [h2]; simp)
    rw [h1, h2] at this
    simp only [Bool.or_eq_true, decide_eq_true_eq, Bool.not_eq_true'] at this
    exact this.imp id (hap _ _)
  · intro k k' x x' hx hx' hne h1 h2
    have := hfine k k' x x' hx hx' hne (by rw [h1]; simp) (by rw [h2]; simp)
    rw [h1, h2] at this
    simp only [Bool.or_eq_true, decide_eq_true_eq, Bool.not_eq_true'] at this
    exact this.imp id (hap _ _)
  · intro k k' x x' hx hx' hne h1 h2 n1 n2
    obtain ⟨i, x0, _, _, _, _, _, _, hag⟩ := hat k x hx
    obtain ⟨i', x0', e1, e2, e3, e4, e5, e6, _⟩ := hat k' x' hx'
    obtain ⟨c1', _, _⟩ := hclass k' x' hx'
    rw [hag h1, List.mem_filterMap]
    refine ⟨x'.ix, List.mem_range.2 (by rw [hsz]; exact c1'), ?_⟩
    subst e3
    rw [List.getElem?_toArray, e2]
    have ha : apart (Region.before ops) x'.ix x.ix = true := by
      unfold apart
      unfold Bit at n1 n2
      rw [Bool.eq_false_iff.2 n2, Bool.eq_false_iff.2 n1]
      rfl
    simp only [Option.bind_some]
    rw [← e5, h2, ha, e4, e6]
    rfl
end Go.Ev

namespace Go.Ev
open Go (Sem)
def Made (L : List COper) (b : Nat) (F : Nat → Fr) (k : Nat) (x : COper) (ob : Ob) : Prop :=
  L[k]? = some x ∧ x.op.cl = .n ∧ wants x (F k) = true ∧ ∃ v, ∀ s, (cop x.op).run (F k) s (b + x.ix) = some (v, s.set (b + x.ix) ob)
def Wr (L : List COper) (F : Nat → Fr) (k : Nat) (x : COper) : Prop := L[k]? = some x ∧ x.op.cl = .w ∧ wants x (F k) = true
structure Inv (ops : Array Oper) (L : List COper) (nt : Nat) (S : Nat → Prop) (b : Nat) (fr0 : Fr) (F : Nat → Fr) (T : Nat → St) (V : Nat → Value) (ι0 : Inj) (base : Nat) (w0 : World) (ds : List Deferred)
    (D : Nat → Prop) (a : Act) (w : World) (K : Nat) (U : Nat → Option Ob) (ι : Inj) : Prop where
  closed : ∀ (i : Nat) (o : Oper), D i → ops[i]? = some o → ∀ e ∈ o.after, Region.binds .any e = true → D e.on
  wOld : ∀ (k : Nat) (x : COper), Wr L F k x → (D x.ix ↔ k < K)
  last : K = 0 ∨ ∃ x, Wr L F (K - 1) x ∧ D x.ix
  le : K ≤ L.length
  rel : RelF ι base U (T K).next w
  made : ∀ (k : Nat) (x : COper) (ob : Ob), Made L b F k x ob → D x.ix → K ≤ k → U (b + x.ix) = some ob
  rest : ∀ c : Nat, (∀ (k : Nat) (x : COper) (ob : Ob), Made L b F k x ob → D x.ix → K ≤ k → c ≠ b + x.ix) → U c = (T K).get c
  free : ∀ (k : Nat) (x : COper), L[k]? = some x → x.op.cl = .n → K ≤ k → (T K).get (b + x.ix) = none
  fresh : ∀ (k : Nat) (x : COper), L[k]? = some x → x.op.cl = .n → ¬ D x.ix → U (b + x.ix) = none ∧ ι (b + x.ix) = none
  tmpsNew : ∀ (k : Nat) (x : COper) (t : Nat), L[k]? = some x → D x.ix → x.dst = some t → VR ι (V k) (a.tmps.getD t Go.undef)
  tmpsOld : ∀ t : Nat, (∀ (k : Nat) (x : COper), L[k]? = some x → D x.ix → x.dst ≠ some t) → VR ι (orUndef (fr0.get t)) (a.tmps.getD t Go.undef)
  tsize : nt ≤ a.tmps.size
  defers : a.defers = ds
  ext : ExtF S ι0 base (T 0).get (T 0).next w0 ι U (T K).next w
section
variable {P : Program} {nt : Nat} {ops : Array Oper} {L : List COper} {pos : Nat → Nat} {call : Caller} {round : Rounder} {b : Nat} {F : Nat → Fr} {T : Nat → St} {V : Nat → Value}
theorem Made.one {k : Nat} {x : COper} {ob ob' : Ob} (h : Made L b F k x ob) (h' : Made L b F k x ob') : ob = ob' := by
  obtain ⟨_, _, _, v, h⟩ := h
  obtain ⟨_, _, _, v', h'⟩ := h'
  have := (h ⟨.e, 0⟩).symm.trans (h' ⟨.e, 0⟩)
  simp only [Option.some.injEq, Prod.mk.injEq] at this
  have e := congrArg (fun s => St.get s (b + x.ix)) this.2
  simp only [St.get_set, if_pos] at e
  exact Option.some.inj e
theorem Plan.place (hp : Plan P nt ops L pos) {k k' : Nat} {x x' : COper} (h : L[k]? = some x) (h' : L[k']? = some x') (e : x.ix = x'.ix) : k = k' := by
  obtain ⟨_, _, _, _, _, _, _, h1⟩ := hp.op k x h
  obtain ⟨_, _, _, _, _, _, _, h2⟩ := hp.op k' x' h'
  rw [← h1, ← h2, e]
theorem Plan.same {k : Nat} {x x' : COper} (h : L[k]? = some x) (h' : L[k]? = some x') : x = x' := Option.some.inj (h.symm.trans h')
theorem frame_new (hp : Plan P nt ops L pos) (ht : Trace call round b L F T V) {k : Nat} {x : COper} {t : Nat} (hx : L[k]? = some x) (hd : x.dst = some t) : ∀ q, k < q → q ≤ L.length → (F q).get t = some (V k) := by
  intro q
  induction q with
  | zero => intro h; omega
  | succ q ih =>
    intro h1 h2
    have hy : L[q]? = some L[q] := List.getElem?_eq_getElem (by omega)
    rw [ht.frame q _ hy]
    by_cases e : k = q
    · subst e
      have := Plan.same hx hy
      rw [← this, hd]
      show (Tr.set (F k) t (V k)).get t = _
      rw [Tr.get_set, if_pos rfl]
    · have h3 := ih (by omega) (by omega)
      cases hd' : (L[q] : COper).dst with
      | none => exact h3
      | some t' =>
        show (Tr.set (F q) t' (V q)).get t = _
        rw [Tr.get_set]
        have hne : t' ≠ t := by
          rintro rfl
          obtain ⟨o, x0, g1, g2, g3, _⟩ := hp.op k x hx
          obtain ⟨o', x0', g1', g2', g3', _⟩ := hp.op q _ hy
          obtain ⟨_, _, e1, _⟩ := rOper_eq g2
          obtain ⟨_, _, e2, _⟩ := rOper_eq g2'
          have : x.ix = (L[q] : COper).ix := hp.one _ _ o o' t' g1 g1' (by rw [← hd, g3, e1]) (by rw [← hd', g3', e2])
          exact e (hp.place hx hy this)
        rw [if_neg hne]
        exact h3
theorem frame_old (ht : Trace call round b L F T V) {t : Nat} : ∀ q, q ≤ L.length → (∀ (k : Nat) (x : COper), L[k]? = some x → k < q → x.dst ≠ some t) → (F q).get t = (F 0).get t := by
  intro q
  induction q with
  | zero => intros; rfl
  | succ q ih =>
    intro h1 h2
    have hy : L[q]? = some L[q] := List.getElem?_eq_getElem (by omega)
    rw [ht.frame q _ hy]
    have h3 := ih (by omega) fun k x hx hk => h2 k x hx (by omega)
    cases hd : (L[q] : COper).dst with
    | none => exact h3
    | some t' =>
      show (Tr.set (F q) t' (V q)).get t = _
      rw [Tr.get_set, if_neg]
      · exact h3
      · rintro rfl
        exact h2 q _ hy (by omega) hd
theorem made_step (hnc : ∀ (k : Nat) (x : COper), L[k]? = some x → x.op.cl ≠ .w → isCall x.op = false) (ht : Trace call round b L F T V) {p : Nat} {x : COper} (hx : L[p]? = some x) (hc : x.op.cl = .n) (hw : wants x (F p) = true) :
    ∃ ob, Made L b F p x ob ∧ live ob = true ∧ T (p + 1) = (T p).set (b + x.ix) ob ∧ ∀ s, (cop x.op).run (F p) s (b + x.ix) = some (V p, s.set (b + x.ix) ob) := by
  obtain ⟨f, h1, h2⟩ := cls_n hc (F p) (b + x.ix)
  have h3 := (ht.yes p x hx hw).1
  rw [oneOp_eq (hnc p x hx (by rw [hc]; simp)), h1] at h3
  obtain ⟨⟨v, o⟩, hf, h6⟩ := om_eq.1 h3
  subst hf
  have h4 : (T p).set (b + x.ix) o = T (p + 1) := congrArg Prod.snd h6
  have h5 : v = V p := congrArg Prod.fst h6
  subst h5
  exact ⟨o, ⟨hx, hc, hw, V p, fun s => h1 s⟩, h2 _ rfl, h4.symm, fun s => h1 s⟩
theorem stretch (hp : Plan P nt ops L pos) (hnc : ∀ (k : Nat) (x : COper), L[k]? = some x → x.op.cl ≠ .w → isCall x.op = false) (ht : Trace call round b L F T V) {K : Nat} : ∀ p, K ≤ p → p ≤ L.length → (∀ (k : Nat) (x : COper), Wr L F k x → K ≤ k → p ≤ k) →
    (T p).next = (T K).next ∧ (∀ (k : Nat) (x : COper) (ob : Ob), Made L b F k x ob → K ≤ k → k < p → (T p).get (b + x.ix) = some ob) ∧
    (∀ c : Nat, (∀ (k : Nat) (x : COper) (ob : Ob), Made L b F k x ob → K ≤ k → k < p → c ≠ b + x.ix) → (T p).get c = (T K).get c) := by
  intro p
  induction p with
  | zero =>
    intro h1 h2 h3
    obtain rfl : K = 0 := by omega
    exact ⟨rfl, fun k x ob _ _ h => absurd h (by omega), fun c _ => rfl⟩
  | succ p ih =>
    intro h1 h2 h3
    by_cases e : K = p + 1
    · subst e
      exact ⟨rfl, fun k x ob _ h4 h5 => absurd h5 (by omega), fun c _ => rfl⟩
    obtain ⟨i1, i2, i3⟩ := ih (by omega) (by omega) fun k x hw hk => by have := h3 k x hw hk; omega
    have hy : L[p]? = some L[p] := List.getElem?_eq_getElem (by omega)
    generalize hyy : (L[p] : COper) = y at hy
    clear hyy
    have same : (∀ ob, ¬ Made L b F p y ob) → T (p + 1) = T p := by
      intro hm
      cases hw : wants y (F p) with
      | false => exact (ht.no p y hy hw).2
      | true =>
        have h4 := (ht.yes p y hy hw).1
        cases hc : y.op.cl with
        | w => exact absurd (h3 p y ⟨hy, hc, hw⟩ (by omega)) (by omega)
        | n =>
          obtain ⟨ob, h5, _⟩ := made_step hnc ht hy hc hw
          exact absurd h5 (hm ob)
        | p =>
          rw [oneOp_eq (hnc p y hy (by rw [hc]; simp))] at h4
          obtain ⟨f, h5⟩ := cls_p hc (F p)
          rw [h5] at h4
          obtain ⟨v, _, h6⟩ := om_eq.1 h4
          exact (congrArg Prod.snd h6).symm
        | l =>
          rw [oneOp_eq (hnc p y hy (by rw [hc]; simp))] at h4
          obtain ⟨f, h5⟩ := cls_l hc (F p) (T p)
          rw [h5] at h4
          obtain ⟨v, _, h6⟩ := om_eq.1 h4
          exact (congrArg Prod.snd h6).symm
    by_cases hm : ∃ ob, Made L b F p y ob
    · obtain ⟨ob0, hm0⟩ := hm
      obtain ⟨ob, hmm, _, hT, _⟩ := made_step hnc ht hm0.1 hm0.2.1 hm0.2.2.1
      rw [hT]
      refine ⟨i1, ?_, ?_⟩
      · intro k x ob' hm' h4 h5
        rw [St.get_set]
        by_cases ek : k = p
        · subst ek
          obtain rfl := Plan.same hm'.1 hy
          rw [if_pos rfl, hm'.one hmm]
        · rw [if_neg]
          · exact i2 k x ob' hm' h4 (by omega)
          · intro he
            exact ek (hp.place hm'.1 hy (by omega))
      · intro c hc
        rw [St.get_set, if_neg (fun e => hc p y ob hmm (by omega) (by omega) e.symm)]
        exact i3 c fun k x ob' hm' h4 h5 => hc k x ob' hm' h4 (by omega)
    · rw [same (fun ob h => hm ⟨ob, h⟩)]
      refine ⟨i1, ?_, fun c hc => i3 c fun k x ob' hm' h4 h5 => hc k x ob' hm' h4 (by omega)⟩
      intro k x ob' hm' h4 h5
      by_cases ek : k = p
      · subst ek
        obtain rfl := Plan.same hm'.1 hy
        exact absurd ⟨ob', hm'⟩ hm
      · exact i2 k x ob' hm' h4 (by omega)
end
end Go.Ev

namespace Go.Ev
open Go (Sem)
theorem arg_ok' {P : Program} {ι : Inj} {fr : Fr} {a : Act} (hg : Globs P ι) {x : Operand} (hx : plainX P x = true) (hf : ∀ t, x = .tmp t → VR ι (orUndef (fr.get t)) (a.tmps.getD t Go.undef)) : VR ι ((rArg x).ev fr) (a.eval x) := by
  cases x with
  | tmp t => exact hf t rfl
  | const v => exact .plainV hx
  | global g =>
    obtain ⟨B, h1, h2, h3, _⟩ := hg g (by simpa [plainX] using hx)
    exact .ptr ⟨B, h1, rfl, by simp [h2, h3]⟩
  | func f => exact .func (f := .func f) (f' := .func f) (a := []) (a' := []) (c := []) (c' := []) rfl rfl (by simp) rfl (by simp)
section
variable {P : Program} {nt : Nat} {ops : Array Oper} {L : List COper} {pos : Nat → Nat} {call : Caller} {round : Rounder} {b : Nat} {F : Nat → Fr} {T : Nat → St} {V : Nat → Value}
  {ι0 : Inj} {base : Nat} {fr0 : Fr} {w0 : World} {ds : List Deferred} {D : Nat → Prop} {a : Act} {w : World} {K : Nat} {U : Nat → Option Ob} {ι : Inj} {S : Nat → Prop}
structure Nx (P : Program) (nt : Nat) (ops : Array Oper) (L : List COper) (D : Nat → Prop) (i p : Nat) (o : Oper) (x x0 : COper) : Prop where
  ho : ops[i]? = some o
  hx : L[p]? = some x
  ix : x.ix = i
  r : rOper P nt ops o i = some x0
  dst : x.dst = o.dst
  op : x.op = x0.op
  guard : x.guard = x0.guard
  rop : rOp P o.op = some x.op
  hn : ¬ D i
  edges : ∀ e ∈ o.after, Region.binds .any e = true → D e.on
  bits : ∀ j, Bit ops i j → D j
  lt : ∀ (k : Nat) (y : COper), L[k]? = some y → Bit ops i y.ix → k < p
  nxt : ∀ d, o.dst = some d → d < nt
theorem next_of (hp : Plan P nt ops L pos) (hcl : ∀ (i : Nat) (o : Oper), D i → ops[i]? = some o → ∀ e ∈ o.after, Region.binds .any e = true → D e.on) {i : Nat} {o : Oper} (ho : ops[i]? = some o) (hn : ¬ D i) (he : ∀ e ∈ o.after, Region.binds .any e = true → D e.on) :
    ∃ p x x0, Nx P nt ops L D i p o x x0 := by
  have hi : i < ops.size := (Array.getElem?_eq_some_iff.1 ho).1
  obtain ⟨x, hx, hix⟩ := hp.at_ i hi
  obtain ⟨o', x0, h1, h2, h3, h4, h5, h6⟩ := hp.op _ x hx
  rw [hix] at h1 h2
  rw [ho] at h1; cases h1
  obtain ⟨c, e1, e2, e3, e4, e5⟩ := rOper_eq h2
  have bits : ∀ j, Bit ops i j → D j := by
    intro j hj
    obtain ⟨o2, g1, e, g2, g3, g4⟩ := before_bit hj
    rw [ho] at g1; cases g1
    have hd := he e g2 g3
    rcases g4 with rfl | ⟨_, g5⟩
    · exact hd
    · exact closed_bits hcl e.on j hd g5
  refine ⟨pos i, x, x0, ho, hx, hix, h2, by rw [h3, e2], h4, h5, by rw [h4, e2]; exact e1, hn, he, bits, ?_, e4⟩
  intro k y hy hbit
  rcases Nat.lt_trichotomy k (pos i) with h | h | h
  · exact h
  · subst h
    obtain rfl := Plan.same hy hx
    rw [hix] at hbit
    exact absurd (bits _ hbit) hn
  · exact absurd hbit (by rw [← hix]; exact hp.lin _ _ _ _ hx hy h)
theorem Inv.agree (hp : Plan P nt ops L pos) (ht : Trace call round b L F T V) (hF : F 0 = fr0) (I : Inv ops L nt S b fr0 F T V ι0 base w0 ds D a w K U ι) {i p : Nat} {o : Oper} {x x0 : COper} (N : Nx P nt ops L D i p o x x0) {q : Nat} (hq : p ≤ q) (hqL : q ≤ L.length) (hpq : q = p ∨ isMove o.op = false) :
    ∀ t, t ∈ readsOf ops o → VR ι (orUndef ((F q).get t)) (a.tmps.getD t Go.undef) := by
  intro t ht'
  by_cases h : ∃ (k : Nat) (y : COper), L[k]? = some y ∧ y.dst = some t
  · obtain ⟨k, y, hy, hd⟩ := h
    obtain ⟨o', y0, g1, g2, g3, _⟩ := hp.op k y hy
    obtain ⟨_, _, e2, _⟩ := rOper_eq g2
    have hod : o'.dst = some t := by rw [← hd, g3, e2]
    rcases hp.before i o t N.ho ht' y.ix o' g1 hod with hbit | ⟨hmv, hbit⟩
    · have hk := N.lt k y hy hbit
      rw [frame_new hp ht hy hd q (by omega) hqL]
      exact I.tmpsNew k y t hy (N.bits _ hbit) hd
    · -- read in front of the write
      have hqp : q = p := hpq.resolve_right (by rw [hmv]; simp)
      subst hqp
      have hpk : q < k := by
        rcases Nat.lt_trichotomy q k with h | h | h
        · exact h
        · subst h
          obtain rfl := Plan.same hy N.hx
          rw [N.ix] at hbit
          exact absurd (N.bits _ hbit) N.hn
        · rw [← N.ix] at hbit
          exact absurd hbit (hp.lin _ _ _ _ hy N.hx h)
      have huniq : ∀ (k' : Nat) (y' : COper), L[k']? = some y' → y'.dst = some t → k' = k := by
        intro k' y' hy' hd'
        obtain ⟨o2, y2, f1, f2, f3, _⟩ := hp.op k' y' hy'
        obtain ⟨_, _, e3, _⟩ := rOper_eq f2
        exact hp.place hy' hy (hp.one _ _ o2 o' t f1 g1 (by rw [← hd', f3, e3]) hod)
      have hnd : ¬ D y.ix := fun hdy => N.hn (closed_bits I.closed _ _ hdy hbit)
      rw [frame_old ht q hqL fun k' y' hy' hk' hd' => by have := huniq k' y' hy' hd'; omega, hF]
      refine I.tmpsOld t fun k' y' hy' hd1 hd' => ?_
      have := huniq k' y' hy' hd'
      subst this
      obtain rfl := Plan.same hy' hy
      exact hnd hd1
  · have hno : ∀ (k : Nat) (y : COper), L[k]? = some y → y.dst ≠ some t := fun k y hy hd => h ⟨k, y, hy, hd⟩
    rw [frame_old ht q hqL fun k y hy _ => hno k y hy, hF]
    exact I.tmpsOld t fun k y hy _ => hno k y hy
theorem reads_op {o : Oper} {t : Nat} (h : Operand.tmp t ∈ o.op.operands.toList) : t ∈ readsOf ops o := by
  unfold readsOf
  exact List.mem_append_left _ (List.mem_filterMap.2 ⟨_, h, rfl⟩)
theorem reads_guard {o : Oper} {j t : Nat} {want : Bool} (h : o.guard = some (j, want)) (h2 : (ops[j]?).bind (·.dst) = some t) : t ∈ readsOf ops o := by
  unfold readsOf
  refine List.mem_append_right _ ?_
  rw [h]
  simp only
  rw [h2]; simp
theorem put_getD (hp : Plan P nt ops L pos) {i p : Nat} {o : Oper} {x x0 : COper} (N : Nx P nt ops L D i p o x x0) (hs : nt ≤ a.tmps.size) {v : Value} {t : Nat} :
    (a.put o.dst v).tmps.getD t Go.undef = if o.dst = some t then v else a.tmps.getD t Go.undef := by
  cases hd : o.dst with
  | none => simp; rfl
  | some d =>
    have hlt := N.nxt d hd
    show (Array.setIfInBounds a.tmps d v).getD t Go.undef = _
    rw [Array.getD_eq_getD_getElem?, Array.getElem?_setIfInBounds]
    by_cases h : d = t
    · subst h
      rw [if_pos rfl, if_pos (Nat.lt_of_lt_of_le hlt hs), if_pos rfl]; rfl
    · rw [if_neg h, if_neg (by simpa using h), Array.getD_eq_getD_getElem?]
theorem Inv.more (hp : Plan P nt ops L pos) (I : Inv ops L nt S b fr0 F T V ι0 base w0 ds D a w K U ι) {i p : Nat} {o : Oper} {x x0 : COper} (N : Nx P nt ops L D i p o x x0) {κ : Inj} (hle : ι.le κ) {v : Value} (hv : VR κ (V p) v) {K' : Nat} {U' : Nat → Option Ob} {w' : World}
    (wOld : ∀ (k : Nat) (x : COper), Wr L F k x → (D x.ix ∨ x.ix = i ↔ k < K'))
    (last : K' = 0 ∨ ∃ x, Wr L F (K' - 1) x ∧ (D x.ix ∨ x.ix = i))
    (le : K' ≤ L.length)
    (rel : RelF κ base U' (T K').next w')
    (made : ∀ (k : Nat) (x : COper) (ob : Ob), Made L b F k x ob → D x.ix ∨ x.ix = i → K' ≤ k → U' (b + x.ix) = some ob)
    (rest : ∀ c : Nat, (∀ (k : Nat) (x : COper) (ob : Ob), Made L b F k x ob → D x.ix ∨ x.ix = i → K' ≤ k → c ≠ b + x.ix) → U' c = (T K').get c)
    (free : ∀ (k : Nat) (x : COper), L[k]? = some x → x.op.cl = .n → K' ≤ k → (T K').get (b + x.ix) = none)
    (fresh : ∀ (k : Nat) (x : COper), L[k]? = some x → x.op.cl = .n → ¬ (D x.ix ∨ x.ix = i) → U' (b + x.ix) = none ∧ κ (b + x.ix) = none)
    (ext : ExtF S ι base U (T K).next w κ U' (T K').next w') : Inv ops L nt S b fr0 F T V ι0 base w0 ds (fun j => D j ∨ j = i) (a.put o.dst v) w' K' U' κ := by
  refine ⟨?_, wOld, last, le, rel, made, rest, free, fresh, ?_, ?_, ?_, by rw [Act.put_defers']; exact I.defers, I.ext.trans ext⟩
  · rintro j oj (hj | rfl) ho e he hb
    · exact .inl (I.closed j oj hj ho e he hb)
    · rw [N.ho] at ho; cases ho
      exact .inl (N.edges e he hb)
  · intro k y t hy hd hdst
    rw [put_getD hp N I.tsize]
    split
    · rename_i hdt
      have hk : y.ix = i := by
        obtain ⟨o', y0, g1, g2, g3, _⟩ := hp.op k y hy
        obtain ⟨_, _, e2, _⟩ := rOper_eq g2
        exact hp.one _ _ o' o t g1 N.ho (by rw [← hdst, g3, e2]) hdt
      have := hp.place hy N.hx (by rw [N.ix]; exact hk)
      subst this
      exact hv
    · rename_i hdt
      rcases hd with hd | hd
      · exact (I.tmpsNew k y t hy hd hdst).mono hle
      · have := hp.place hy N.hx (by rw [N.ix]; exact hd)
        subst this
        obtain rfl := Plan.same hy N.hx
        exact absurd (by rw [← N.dst]; exact hdst) hdt
  · intro t hno
    rw [put_getD hp N I.tsize, if_neg]
    · exact (I.tmpsOld t fun k y hy hd => hno k y hy (.inl hd)).mono hle
    · intro hdt
      exact hno p x N.hx (.inr N.ix) (by rw [N.dst]; exact hdt)
  · cases o.dst with
    | none => exact I.tsize
    | some d => show nt ≤ (Array.setIfInBounds a.tmps d v).size; rw [Array.size_setIfInBounds]; exact I.tsize
theorem Nx.is (hp : Plan P nt ops L pos) {i p : Nat} {o : Oper} {x x0 : COper} (N : Nx P nt ops L D i p o x x0) {k : Nat} {y : COper} (hy : L[k]? = some y) (h : y.ix = i) : k = p ∧ y = x := by
  have := hp.place hy N.hx (by rw [N.ix]; exact h)
  subst this
  exact ⟨rfl, Plan.same hy N.hx⟩
theorem ExtF.refl {S : Nat → Prop} {g : Nat → Option Ob} {nx : Nat} (h : RelF ι base g nx w) : ExtF S ι base g nx w ι g nx w :=
  ⟨Inj.le_refl _, h, Nat.le_refl _, fun _ _ _ h1 => ⟨h1, id⟩, fun _ _ _ => rfl, fun a o B h1 h2 h3 _ => ⟨a, o, B, h1, h2, fun h => h, h3, rfl⟩, Nat.le_refl _, rfl, rfl, rfl⟩
theorem ExtF.mono {S S' : Nat → Prop} {κ : Inj} {g g' : Nat → Option Ob} {nx nx' : Nat} {w' : World} (h : ExtF S ι base g nx w κ g' nx' w') (hS : ∀ a, S a → S' a) : ExtF S' ι base g nx w κ g' nx' w' :=
  ⟨h.le, h.rel, h.next, fun a ha hn => h.gone a ha (fun hs => hn (hS a hs)), h.keep, h.img, h.size, h.os, h.tape, h.output⟩
theorem Inv.still (hp : Plan P nt ops L pos) (I : Inv ops L nt S b fr0 F T V ι0 base w0 ds D a w K U ι) {i p : Nat} {o : Oper} {x x0 : COper} (N : Nx P nt ops L D i p o x x0) {v : Value} (hv : VR ι (V p) v)
    (h1 : ¬ Wr L F p x) (h2 : ∀ ob, ¬ Made L b F p x ob) : Inv ops L nt S b fr0 F T V ι0 base w0 ds (fun j => D j ∨ j = i) (a.put o.dst v) w K U ι := by
  refine I.more hp N (Inj.le_refl _) hv ?_ ?_ I.le I.rel ?_ ?_ I.free ?_ (ExtF.refl I.rel)
  · intro k y hy
    rw [← I.wOld k y hy]
    constructor
    · rintro (h | h)
      · exact h
      · obtain ⟨rfl, rfl⟩ := N.is hp hy.1 h
        exact absurd hy h1
    · exact .inl
  · rcases I.last with h | ⟨y, h3, h4⟩
    · exact .inl h
    · exact .inr ⟨y, h3, .inl h4⟩
  · rintro k y ob hm (h | h) hk
    · exact I.made k y ob hm h hk
    · obtain ⟨rfl, rfl⟩ := N.is hp hm.1 h
      exact absurd hm (h2 ob)
  · intro c hc
    exact I.rest c fun k y ob hm hd hk => hc k y ob hm (.inl hd) hk
  · intro k y hy hn hd
    exact I.fresh k y hy hn fun h => hd (.inl h)
theorem Inv.part (I : Inv ops L nt S b fr0 F T V ι0 base w0 ds D a w K U ι) : ∀ c o, (T K).get c = some o → U c = some o := by
  intro c o h
  rw [I.rest c ?_]
  · exact h
  · rintro k y ob hm hd hk rfl
    rw [I.free k y hm.1 hm.2.1 hk] at h; cases h
theorem Inv.part_at (hp : Plan P nt ops L pos) (hnc : ∀ (k : Nat) (x : COper), L[k]? = some x → x.op.cl ≠ .w → isCall x.op = false) (ht : Trace call round b L F T V) (I : Inv ops L nt S b fr0 F T V ι0 base w0 ds D a w K U ι) {p : Nat} (hK : K ≤ p) (hpL : p ≤ L.length)
    (hw : ∀ (k : Nat) (x : COper), Wr L F k x → K ≤ k → p ≤ k) (hn : ∀ (k : Nat) (x : COper) (ob : Ob), Made L b F k x ob → K ≤ k → k < p → D x.ix) :
    (T p).next = (T K).next ∧ (∀ c o, (T p).get c = some o → U c = some o) ∧ (∀ c, (T p).get c = none → (∀ (k : Nat) (x : COper) (ob : Ob), Made L b F k x ob → D x.ix → p ≤ k → c ≠ b + x.ix) → U c = none) := by
  obtain ⟨s1, s2, s3⟩ := stretch hp hnc ht p hK hpL hw
  refine ⟨s1, ?_, ?_⟩
  · intro c o h
    by_cases hc : ∃ (k : Nat) (x : COper) (ob : Ob), Made L b F k x ob ∧ K ≤ k ∧ k < p ∧ c = b + x.ix
    · obtain ⟨k, x, ob, h1, h2, h3, rfl⟩ := hc
      rw [s2 k x ob h1 h2 h3] at h
      rw [← h]
      exact I.made k x ob h1 (hn k x ob h1 h2 h3) h2
    · rw [s3 c fun k x ob h1 h2 h3 h4 => hc ⟨k, x, ob, h1, h2, h3, h4⟩] at h
      exact I.part c o h
  · intro c h hc
    by_cases hm : ∃ (k : Nat) (x : COper) (ob : Ob), Made L b F k x ob ∧ K ≤ k ∧ k < p ∧ c = b + x.ix
    · obtain ⟨k, x, ob, h1, h2, h3, rfl⟩ := hm
      rw [s2 k x ob h1 h2 h3] at h; cases h
    · rw [s3 c fun k x ob h1 h2 h3 h4 => hm ⟨k, x, ob, h1, h2, h3, h4⟩] at h
      rw [I.rest c ?_]
      · exact h
      · intro k x ob h1 h2 h3 h4
        rcases Nat.lt_or_ge k p with h5 | h5
        · exact hm ⟨k, x, ob, h1, h3, h5, h4⟩
        · exact hc k x ob h1 h2 h5 h4
end
end Go.Ev

namespace Go.Ev
open Go (Sem)
theorem again_eq {fr : Fr} {s : St} {d : Option Nat} {c : Cop} {g : Option (Option Nat × Bool)} : ∀ {l : List (Option Nat × Cop × Option (Option Nat × Bool))}, againOk fr s l = true → (d, c, g) ∈ l → (Option.rec true (fun g => wanted g fr) g : Bool) = true →
    ∃ t v s', d = some t ∧ (cop c).run fr s 0 = some (v, s') ∧ same v (orUndef (fr.get t)) = true := by
  intro l
  induction l with
  | nil => intro _ h; simp at h
  | cons x l ih =>
    intro h hm hw
    have h : cnd (Option.rec true (fun g => wanted g fr) x.2.2)
      (Option.rec false (fun r => Option.rec false (fun t => cnd (same r.1 (orUndef (fr.get t))) (againOk fr s l) false) x.1) ((cop x.2.1).run fr s 0)) (againOk fr s l) = true := h
    rw [cnd_eq] at h
    rcases List.mem_cons.1 hm with e | hm
    · subst e
      simp only at h
      rw [if_pos hw] at h
      cases e1 : (cop c).run fr s 0 with
      | none => rw [e1] at h; cases h
      | some r =>
        rw [e1] at h
        cases d with
        | none => cases h
        | some t =>
          have h : cnd (same r.1 (orUndef (fr.get t))) (againOk fr s l) false = true := h
          rw [cnd_eq] at h
          split at h
          · rename_i hs; exact ⟨t, r.1, r.2, rfl, rfl, hs⟩
          · cases h
    · split at h
      · cases e1 : (cop x.2.1).run fr s 0 with
        | none => rw [e1] at h; cases h
        | some r =>
          rw [e1] at h
          cases e2 : x.1 with
          | none => rw [e2] at h; cases h
          | some t =>
            rw [e2] at h
            have h : cnd (same r.1 (orUndef (fr.get t))) (againOk fr s l) false = true := h
            rw [cnd_eq] at h
            split at h
            · exact ih h hm hw
            · cases h
      · exact ih h hm hw
section
variable {P : Program} {nt : Nat} {ops : Array Oper} {L : List COper} {pos : Nat → Nat} {call : Caller} {round : Rounder} {b : Nat} {F : Nat → Fr} {T : Nat → St} {V : Nat → Value}
  {ι0 : Inj} {base : Nat} {fr0 : Fr} {w0 : World} {ds : List Deferred} {D : Nat → Prop} {a : Act} {w : World} {K : Nat} {U : Nat → Option Ob} {ι : Inj} {S : Nat → Prop}
theorem Plan.plain (hp : Plan P nt ops L pos) : ∀ (k : Nat) (x : COper), L[k]? = some x → x.op.cl ≠ .w → isCall x.op = false := by
  intro k x _ h
  cases e : x.op <;> first | rfl | (rw [e] at h; exact absurd rfl h)
theorem Inv.step {ro : Option Nat} (hp : Plan P nt ops L pos) (ht : Trace call round b L F T V) (hF : F 0 = fr0) (hcall : GoodCall P call) (hround : NoRound round)
    (hnew : ∀ (k : Nat) (x : COper), L[k]? = some x → x.op.cl = .n → b + x.ix < (T 0).next) (hS : ∀ (k : Nat) (x : COper), L[k]? = some x → x.op.cl = .n → S (b + x.ix)) (hg : Globs P ι0) (I : Inv ops L nt S b fr0 F T V ι0 base w0 ds D a w K U ι) {i : Nat} {o : Oper} (ho : ops[i]? = some o) (hn : ¬ D i) (he : ∀ e ∈ o.after, Region.binds .any e = true → D e.on)
    {Q : Exit → Act → World → Prop} {next : Act → World → Prop}
    (hQ : ∀ (a' : Act) (w' : World) (K' : Nat) (U' : Nat → Option Ob) (κ : Inj), Inv ops L nt S b fr0 F T V ι0 base w0 ds (fun j => D j ∨ j = i) a' w' K' U' κ → next a' w') : wpOpIn (Wd ro) 0 P ops Q i next a w := by
  obtain ⟨p, x, x0, N⟩ := next_of hp I.closed ho hn he
  have hpL : p < L.length := (List.getElem?_eq_some_iff.1 N.hx).1
  have hg' : Globs P ι := hg.mono I.ext.le
  have hnc := hp.plain
  obtain ⟨_, _, _, _, _, hplain⟩ := rOper_eq N.r
  have hops : ∀ q, p ≤ q → q ≤ L.length → (q = p ∨ isMove o.op = false) → Ops ι o a (F q) := fun q h1 h2 h3 y hy => arg_ok' hg' (hplain y hy) fun t e => I.agree hp ht hF N h1 h2 h3 t (reads_op (e ▸ hy))
  have hwant : ∀ q, p ≤ q → q ≤ L.length → (q = p ∨ isMove o.op = false) → Region.wanted o (yielded ops a.tmps) = wants x (F q) := fun q h1 h2 h3 => by
    rw [wanted_ok' (fr := F q) N.r fun j want t g1 g2 => I.agree hp ht hF N h1 h2 h3 t (reads_guard g1 g2)]
    unfold wants
    rw [N.guard]
  unfold wpOpIn
  rw [N.ho]
  simp only
  rw [hwant p (Nat.le_refl _) (by omega) (.inl rfl)]
  cases hwp : wants x (F p) with
  | false =>
    rw [if_neg (by simp)]
    refine ⟨fun _ _ => trivial, ?_⟩
    refine hQ _ _ _ _ _ (I.still hp N ?_ (fun h => by rw [h.2.2] at hwp; cases hwp) fun ob h => by rw [h.2.2.1] at hwp; cases hwp)
    rw [(ht.no p x N.hx hwp).1]
    exact .undef
  | true =>
  rw [if_pos rfl]
  have hrun := ht.yes p x N.hx hwp
  have late : ∀ (k : Nat) (y : COper), Wr L F k y → K ≤ k → ¬ D y.ix := fun k y hy hk hd => by
    have := (I.wOld k y hy).1 hd; omega
  have look : isQ x.op = true → ∀ (s : St) (q : Nat) (id : Nat), Rel ι base s w → p ≤ q → q ≤ L.length → (q = p ∨ isMove o.op = false) → (cop x.op).run (F q) s id = some (V p, s) → o.wpIn (Wd ro) 0 P a w next Q := by
    intro hq s q id r h1 h2 h3 h
    obtain ⟨_, hok⟩ := (op_ok N.rop (hops q h1 h2 h3) r h).q hq
    obtain ⟨v', hv, hl⟩ := hok.looks (rOp_nd N.rop)
    refine hl _ _ _ (hQ _ _ _ _ _ (I.still hp N hv (fun h => ?_) fun ob h => ?_))
    · unfold isQ at hq; rw [h.2.1] at hq; cases hq
    · unfold isQ at hq; rw [h.2.1] at hq; cases hq
  cases hc : x.op.cl with
  | p =>
    rw [oneOp_eq (hnc p x N.hx (by rw [hc]; simp))] at hrun
    obtain ⟨f, hf⟩ := cls_p hc (F p)
    have h1 := hrun.1
    rw [hf] at h1
    obtain ⟨v, hfv, h7⟩ := om_eq.1 h1
    subst hfv
    have h1 : v = V p := congrArg Prod.fst h7
    refine look (by unfold isQ; rw [hc]) (T K) p 0 (I.rel.sub I.part rfl) (Nat.le_refl _) (by omega) (.inl rfl) ?_
    rw [hf, ← h1]; rfl
  | l =>
    rw [oneOp_eq (hnc p x N.hx (by rw [hc]; simp))] at hrun
    have hmv : isMove o.op = false := by
      cases e : o.op <;> first | rfl | skip
      exfalso
      have hro := N.rop
      rw [e] at hro
      have hro2 := Option.some.inj hro
      rw [← hro2] at hc
      cases hc
    rcases Nat.lt_or_ge p K with hpK | hpK
    · -- read again behind the last one that wrote
      rcases I.last with h | ⟨y, hy, hdy⟩
      · omega
      have hne : x.ix ≠ y.ix := by intro e; rw [N.ix] at e; rw [← e] at hdy; exact N.hn hdy
      have hpq : p < K - 1 := by
        rcases Nat.lt_or_ge p (K - 1) with h | h
        · exact h
        · have e : p = K - 1 := by omega
          rw [← e] at hy
          exact absurd (by rw [Plan.same hy.1 N.hx]) hne
      have hyL : K - 1 < L.length := (List.getElem?_eq_some_iff.1 hy.1).1
      have hag := hp.again _ _ _ _ hy.1 N.hx (Ne.symm hne) hy.2.1 hc (fun hb => N.hn (by rw [← N.ix]; exact closed_bits I.closed _ _ hdy hb)) (hp.lin _ _ _ _ N.hx hy.1 hpq)
      obtain ⟨_, h2⟩ := ht.yes _ _ hy.1 hy.2.2
      rw [show K - 1 + 1 = K by omega] at h2
      obtain ⟨t, v, s', e1, e2, e3⟩ := again_eq h2 hag (by have := hwant (K - 1) (by omega) (by omega) (.inr hmv); rw [hwant p (Nat.le_refl _) (by omega) (.inl rfl), hwp] at this; unfold wants at this; exact this.symm)
      have e4 := same_eq e3
      rw [frame_new hp ht N.hx e1 _ hpq (by omega)] at e4
      have e4 : v = V p := e4
      obtain ⟨f, hf⟩ := cls_l hc (F (K - 1)) (T K)
      rw [hf] at e2
      obtain ⟨v2, hfv, h7⟩ := om_eq.1 e2
      subst hfv
      have e2 : v2 = v := congrArg Prod.fst h7
      refine look (by unfold isQ; rw [hc]) (T K) (K - 1) 0 (I.rel.sub I.part rfl) (by omega) (by omega) (.inr hmv) ?_
      rw [hf, ← e4, ← e2]; rfl
    · obtain ⟨g1, g2, _⟩ := I.part_at hp hnc ht hpK (by omega) (by
        intro k y hy hk
        rcases Nat.lt_or_ge k p with h | h
        · exfalso
          have hne : x.ix ≠ y.ix := fun e => by have := hp.place N.hx hy.1 e; omega
          rcases hp.lw _ _ _ _ N.hx hy.1 hne hc hy.2.1 with h1 | h1 | h1
          · omega
          · exact late k y hy hk (N.bits _ (by rw [← N.ix]; exact h1))
          · exact hp.lin _ _ _ _ hy.1 N.hx h h1
        · exact h) (by
        intro k y ob hm hk hkp
        have hne : x.ix ≠ y.ix := fun e => by have := hp.place N.hx hm.1 e; omega
        rcases hp.ln _ _ _ _ N.hx hm.1 hne hc hm.2.1 with h1 | h1 | h1
        · omega
        · exact N.bits _ (by rw [← N.ix]; exact h1)
        · exact absurd h1 (hp.lin _ _ _ _ hm.1 N.hx hkp))
      obtain ⟨f, hf⟩ := cls_l hc (F p) (T p)
      have h1 := hrun.1
      rw [hf] at h1
      obtain ⟨v, hfv, h7⟩ := om_eq.1 h1
      subst hfv
      have h1 : v = V p := congrArg Prod.fst h7
      refine look (by unfold isQ; rw [hc]) (T p) p 0 (I.rel.sub g2 g1.symm) (Nat.le_refl _) (by omega) (.inl rfl) ?_
      rw [hf, ← h1]; rfl
  | n =>
    obtain ⟨ob, hm, hlive, hT, hrun2⟩ := made_step hnc ht N.hx hc hwp
    have hKp : K ≤ p := by
      rcases Nat.lt_or_ge p K with hpK | h
      · exfalso
        rcases I.last with h | ⟨y, hy, hdy⟩
        · omega
        have hne : x.ix ≠ y.ix := by intro e; rw [N.ix] at e; rw [← e] at hdy; exact N.hn hdy
        have hpq : p < K - 1 := by
          rcases Nat.lt_or_ge p (K - 1) with h | h
          · exact h
          · have e : p = K - 1 := by omega
            rw [← e] at hy
            exact absurd (by rw [Plan.same hy.1 N.hx]) hne
        rcases hp.nw _ _ _ _ N.hx hy.1 hne hc hy.2.1 with h1 | h1 | h1
        · omega
        · exact hp.lin _ _ _ _ N.hx hy.1 hpq h1
        · exact N.hn (by rw [← N.ix]; exact closed_bits I.closed _ _ hdy h1)
      · exact h
    have hfr := I.fresh p x N.hx hc (by rw [N.ix]; exact N.hn)
    have hnone : (T K).get (b + x.ix) = none := by
      cases e : (T K).get (b + x.ix) with
      | none => rfl
      | some o' => have := I.part _ _ e; rw [hfr.1] at this; cases this
    have hlt : b + x.ix < (T K).next := Nat.lt_of_lt_of_le (hnew p x N.hx hc) I.ext.next
    have r : Rel ι base (T K) w := I.rel.sub I.part rfl
    have hdoes := ((op_ok N.rop (hops p (Nat.le_refl _) (by omega) (.inl rfl)) r (hrun2 (T K))).n hc hlt hnone hfr.2).op (rOp_nd N.rop)
    refine hdoes _ _ _ fun κ v' w' e1 e2 => ?_
    have lift := Ext.lift (U' := fun c => if c = b + x.ix then some ob else U c) I.rel I.part rfl e1 (fun c hc => by rw [hc]; exact hfr.1)
      (fun c oc h => by
        rw [St.get_set] at h
        by_cases e : b + x.ix = c
        · rw [if_pos e] at h; rw [if_pos e.symm]; exact h
        · rw [if_neg e] at h; rw [if_neg (fun h => e h.symm)]; exact I.part c oc h)
      (fun c h _ => by
        rw [St.get_set] at h
        by_cases e : b + x.ix = c
        · rw [if_pos e] at h; cases h
        · rw [if_neg (fun h => e h.symm)])
      (fun c h h' => by
        rw [St.get_set] at h
        by_cases e : b + x.ix = c
        · rw [if_pos e] at h; cases h
        · rw [if_neg e] at h; exact absurd h h')
    rw [St.next_set] at lift
    refine hQ _ _ K _ κ (I.more hp N lift.le e2 ?_ ?_ I.le lift.rel ?_ ?_ I.free ?_ (lift.mono fun c hcc => by rw [hcc]; exact hS p x N.hx hc))
    · intro k y hy
      rw [← I.wOld k y hy]
      constructor
      · rintro (h | h)
        · exact h
        · obtain ⟨rfl, rfl⟩ := N.is hp hy.1 h
          have := hy.2.1; rw [hc] at this; cases this
      · exact .inl
    · rcases I.last with h | ⟨y, h3, h4⟩
      · exact .inl h
      · exact .inr ⟨y, h3, .inl h4⟩
    · rintro k y ob' hm' (h | h) hk
      · have hne : b + y.ix ≠ b + x.ix := by
          intro e
          have : y.ix = i := by rw [← N.ix]; omega
          rw [this] at h; exact N.hn h
        show (if b + y.ix = b + x.ix then some ob else U (b + y.ix)) = _
        rw [if_neg hne]
        exact I.made k y ob' hm' h hk
      · obtain ⟨rfl, rfl⟩ := N.is hp hm'.1 h
        show (if b + y.ix = b + y.ix then some ob else U (b + y.ix)) = _
        rw [if_pos rfl, hm'.one hm]
    · intro c hcc
      show (if c = b + x.ix then some ob else U c) = _
      rw [if_neg (hcc p x ob hm (.inr N.ix) hKp)]
      exact I.rest c fun k y ob' hm' hd hk => hcc k y ob' hm' (.inl hd) hk
    · intro k y hy hcn hd
      have h1 := I.fresh k y hy hcn fun h => hd (.inl h)
      have hne : b + y.ix ≠ b + x.ix := by
        intro e
        exact hd (.inr (by rw [← N.ix]; omega))
      obtain ⟨g1, g2⟩ := lift.gone (b + y.ix) (Nat.lt_of_lt_of_le (hnew k y hy hcn) I.ext.next) hne h1.1
      exact ⟨g1, g2 h1.2⟩
  | w =>
    have hwr : Wr L F p x := ⟨N.hx, hc, hwp⟩
    have hKp : K ≤ p := by
      rcases Nat.lt_or_ge p K with h | h
      · exact absurd ((I.wOld p x hwr).2 h) (by rw [N.ix]; exact N.hn)
      · exact h
    have hdone : ∀ (k : Nat) (y : COper) (ob : Ob), Made L b F k y ob → k < p → D y.ix := by
      intro k y ob hm hkp
      have hne : y.ix ≠ x.ix := fun e => by have := hp.place hm.1 N.hx e; omega
      rcases hp.nw _ _ _ _ hm.1 N.hx hne hm.2.1 hc with h1 | h1 | h1
      · omega
      · exact absurd h1 (hp.lin _ _ _ _ hm.1 N.hx hkp)
      · exact N.bits _ (by rw [← N.ix]; exact h1)
    have hfirst : ∀ (k : Nat) (y : COper), Wr L F k y → K ≤ k → p ≤ k := by
      intro k y hy hk
      rcases Nat.lt_or_ge k p with h | h
      · exfalso
        have hne : y.ix ≠ x.ix := fun e => by have := hp.place hy.1 N.hx e; omega
        rcases hp.ww _ _ _ _ hy.1 N.hx hne hy.2.1 hc with h1 | h1
        · exact hp.lin _ _ _ _ hy.1 N.hx h h1
        · exact late k y hy hk (N.bits _ (by rw [← N.ix]; exact h1))
      · exact h
    obtain ⟨g1, g2, g3⟩ := I.part_at hp hnc ht hKp (by omega) hfirst fun k y ob hm _ hkp => hdone k y ob hm hkp
    have r : Rel ι base (T p) w := I.rel.sub g2 g1.symm
    have hrun1 := hrun.1
    rw [N.op] at hrun1
    have hdoes := oper_ok' hcall hround N.r (hops p (Nat.le_refl _) (by omega) (.inl rfl)) hg' r (fun h => by rw [← N.op, hc] at h; cases h) hrun1
    refine hdoes _ _ _ fun κ v' w' e1 e2 => ?_
    have e1 : Ext none_ ι base (T p) w κ (T (p + 1)) w' := e1.mono fun c h => by rw [← N.op, hc] at h; cases h.2
    have lift := Ext.lift (U' := fun c => match (T (p + 1)).get c with | some oc => some oc | none => (match (T p).get c with | none => U c | some _ => none)) (show RelF ι base U (T p).next w by rw [g1]; exact I.rel) g2 rfl e1 (fun _ h => h.elim)
      (fun c oc h => by simp only [h])
      (fun c h h' => by simp only [h, h'])
      (fun c h h' => by
        simp only [h]
        cases e : (T p).get c with
        | none => exact absurd e h'
        | some _ => rfl)
    rw [g1] at lift
    have hfree : ∀ (k : Nat) (y : COper), L[k]? = some y → y.op.cl = .n → p ≤ k → (T p).get (b + y.ix) = none := by
      intro k y hy hcn hk
      obtain ⟨_, _, s3⟩ := stretch hp hnc ht p hKp (by omega) hfirst
      rw [s3 _ fun k' y' ob' hm' h1 h2 h3 => by have := hp.place hm'.1 hy (by omega); omega]
      exact I.free k y hy hcn (by omega)
    have hlt : ∀ (k : Nat) (y : COper), L[k]? = some y → y.op.cl = .n → b + y.ix < (T p).next := fun k y hy hcn => by rw [g1]; exact Nat.lt_of_lt_of_le (hnew k y hy hcn) I.ext.next
    refine hQ _ _ (p + 1) _ κ (I.more hp N lift.le e2 ?_ ?_ (by omega) lift.rel ?_ ?_ ?_ ?_ (lift.mono fun _ h => h.elim))
    · intro k y hy
      constructor
      · rintro (h | h)
        · have := (I.wOld k y hy).1 h; omega
        · obtain ⟨rfl, rfl⟩ := N.is hp hy.1 h
          omega
      · intro h
        rcases Nat.lt_or_ge k K with h1 | h1
        · exact .inl ((I.wOld k y hy).2 h1)
        · have := hfirst k y hy h1
          obtain rfl : k = p := by omega
          exact .inr (by rw [Plan.same hy.1 N.hx]; exact N.ix)
    · exact .inr ⟨x, by rw [Nat.add_sub_cancel]; exact hwr, .inr N.ix⟩
    · rintro k y ob hm (h | h) hk
      · have h0 := hfree k y hm.1 hm.2.1 (by omega)
        have h1 := (e1.gone _ (hlt k y hm.1 hm.2.1) (fun h => h) h0).1
        simp only [h1, h0]
        exact I.made k y ob hm h (by omega)
      · obtain ⟨rfl, rfl⟩ := N.is hp hm.1 h
        omega
    · intro c hcc
      cases h1 : (T (p + 1)).get c with
      | some oc => simp only
      | none =>
        simp only
        cases h2 : (T p).get c with
        | some _ => simp only
        | none =>
          simp only
          refine g3 c h2 fun k y ob hm hd hk => ?_
          rcases Nat.lt_or_ge p k with h | h
          · exact hcc k y ob hm (.inl hd) h
          · obtain rfl : k = p := by omega
            have := hm.2.1
            rw [Plan.same hm.1 N.hx, hc] at this; cases this
    · intro k y hy hcn hk
      exact (e1.gone _ (hlt k y hy hcn) (fun h => h) (hfree k y hy hcn (by omega))).1
    · intro k y hy hcn hd
      have h1 := I.fresh k y hy hcn fun h => hd (.inl h)
      obtain ⟨g4, g5⟩ := lift.gone (b + y.ix) (Nat.lt_of_lt_of_le (hnew k y hy hcn) I.ext.next) (fun h => h) h1.1
      exact ⟨g4, g5 h1.2⟩
end
end Go.Ev

namespace Go.Ev
open Go (Sem)
theorem before_edge {ops : Array Oper} {i : Nat} {o : Oper} (ho : ops[i]? = some o) {e : Edge} (he : e ∈ o.after) (hb : Region.binds .any e = true) : Bit ops i e.on := by
  unfold Bit
  rw [before_eq, ← Array.foldl_toList]
  have one : ∀ (acc : Array Nat) (o : Oper) (e : Edge), e ∈ o.after → Region.binds .any e = true → (maskOf acc o).testBit e.on = true := by
    intro acc o e he hb
    unfold maskOf
    rw [← Array.foldl_toList]
    have keep : ∀ (l : List Edge) (s j : Nat), s.testBit j = true → (l.foldl (fun s e => if Region.binds .any e then s ||| 2 ^ e.on ||| acc.getD e.on 0 else s) s).testBit j = true := by
      intro l
      induction l with
      | nil => intro s j h; exact h
      | cons x l ih =>
        intro s j h
        rw [List.foldl_cons]
        refine ih _ _ ?_
        split
        · rw [Nat.testBit_or, Nat.testBit_or, h]; rfl
        · exact h
    have key : ∀ (l : List Edge) (s : Nat), e ∈ l → (l.foldl (fun s e => if Region.binds .any e then s ||| 2 ^ e.on ||| acc.getD e.on 0 else s) s).testBit e.on = true := by
      intro l
      induction l with
      | nil => intro s h; simp at h
      | cons x l ih =>
        intro s h
        rw [List.foldl_cons]
        rcases List.mem_cons.1 h with rfl | h
        · refine keep _ _ _ ?_
          rw [if_pos hb, Nat.testBit_or, Nat.testBit_or, Nat.testBit_two_pow_self, Bool.or_true]; rfl
        · exact ih _ h
    exact key _ _ (by simpa using he)
  have key : ∀ (l pre : List Oper) (acc : Array Nat), acc.size = pre.length → (∀ (k : Nat) (o : Oper), pre[k]? = some o → ∀ e ∈ o.after, Region.binds .any e = true → (acc.getD k 0).testBit e.on = true) →
      ∀ (k : Nat) (o : Oper), (pre ++ l)[k]? = some o → ∀ e ∈ o.after, Region.binds .any e = true → ((l.foldl (fun acc o => acc.push (maskOf acc o)) acc).getD k 0).testBit e.on = true := by
    intro l
    induction l with
    | nil => intro pre acc h1 h2; simpa using h2
    | cons x l ih =>
      intro pre acc h1 h2
      have := ih (pre ++ [x]) (acc.push (maskOf acc x)) (by simp [h1]) ?_
      · simpa using this
      · intro k o hk e he hb
        rw [Array.getD_eq_getD_getElem?, Array.getElem?_push]
        by_cases h : k = acc.size
        · rw [if_pos h]
          rw [h, h1] at hk
          simp at hk
          subst hk
          exact one acc x e he hb
        · rw [if_neg h, ← Array.getD_eq_getD_getElem?]
          have hlt : k < pre.length := by
            have := (List.getElem?_eq_some_iff.1 hk).1
            simp at this
            omega
          rw [List.getElem?_append_left hlt] at hk
          exact h2 k o hk e he hb
  exact key ops.toList [] #[] rfl (fun k o h => by simp at h) i o (by rw [List.nil_append, Array.getElem?_toList]; exact ho) e he hb
def Done (listed : Array Bool) (i : Nat) : Prop := listed.getD i false = true
section
variable {P : Program} {nt : Nat} {ops : Array Oper} {L : List COper} {pos : Nat → Nat} {call : Caller} {round : Rounder} {b : Nat} {F : Nat → Fr} {T : Nat → St} {V : Nat → Value}
  {ι0 : Inj} {base : Nat} {fr0 : Fr} {w0 : World} {ds : List Deferred} {D : Nat → Prop} {a : Act} {w : World} {K : Nat} {U : Nat → Option Ob} {ι : Inj} {S : Nat → Prop}
theorem Inv.finish (hp : Plan P nt ops L pos) (ht : Trace call round b L F T V) (hF : F 0 = fr0) (I : Inv ops L nt S b fr0 F T V ι0 base w0 ds D a w K U ι) (hall : ∀ (k : Nat) (x : COper), L[k]? = some x → D x.ix) :
    ExtF S ι0 base (T 0).get (T 0).next w0 ι (T L.length).get (T L.length).next w ∧ FR ι (F L.length) nt a.tmps := by
  have hlt : ∀ (k : Nat) (x : COper), L[k]? = some x → k < L.length := fun k x h => (List.getElem?_eq_some_iff.1 h).1
  obtain ⟨g1, g2, g3⟩ := I.part_at hp hp.plain ht I.le (Nat.le_refl _) (fun k x hy hk => by have := (I.wOld k x hy).1 (hall k x hy.1); omega) fun k x ob hm _ _ => hall k x hm.1
  have hU : U = (T L.length).get := by
    funext c
    cases e : (T L.length).get c with
    | some o => exact g2 c o e
    | none => exact g3 c e fun k x ob hm _ hk => by have := hlt k x hm.1; omega
  refine ⟨?_, I.tsize, fun t => ?_⟩
  · have := I.ext
    rw [hU, ← g1] at this
    exact this
  · by_cases h : ∃ (k : Nat) (y : COper), L[k]? = some y ∧ y.dst = some t
    · obtain ⟨k, y, hy, hd⟩ := h
      rw [frame_new hp ht hy hd _ (hlt k y hy) (Nat.le_refl _)]
      exact I.tmpsNew k y t hy (hall k y hy) hd
    · rw [frame_old ht _ (Nat.le_refl _) fun k y hy _ hd => h ⟨k, y, hy, hd⟩, hF]
      exact I.tmpsOld t fun k y hy _ hd => h ⟨k, y, hy, hd⟩
theorem ready_all (hp : Plan P nt ops L pos) {listed : Array Bool} (hs : listed.size = ops.size) (hr : Region.ready .any ops listed = []) : ∀ (k : Nat) (x : COper), L[k]? = some x → Done listed x.ix := by
  intro k
  induction k using Nat.strongRecOn with
  | _ k ih =>
    intro x hx
    obtain ⟨o, x0, ho, _, _, _, _, hpos⟩ := hp.op k x hx
    have hlt : x.ix < ops.size := (Array.getElem?_eq_some_iff.1 ho).1
    by_cases hd : Done listed x.ix
    · exact hd
    · exfalso
      have hm : x.ix ∈ Region.ready .any ops listed := by
        rw [mem_ready]
        refine ⟨?_, o, ho, fun e he hb => ?_⟩
        · unfold Done at hd
          rw [Array.getD_eq_getD_getElem?] at hd ⊢
          rw [Array.getElem?_eq_getElem (by omega)] at hd ⊢
          simpa using hd
        · have hbit := before_edge ho he hb
          obtain ⟨y, hy, hyi⟩ := hp.at_ e.on (hp.inside _ _ ho e he)
          rw [← hyi] at hbit ⊢
          rcases Nat.lt_trichotomy (pos e.on) k with h | h | h
          · exact ih _ h y hy
          · rw [h] at hy
            have := Plan.same hy hx
            rw [this] at hbit
            exact absurd hbit (hp.self k x hx)
          · exact absurd hbit (hp.lin _ _ _ _ hx hy h)
      rw [hr] at hm
      simp at hm
theorem done_set {listed : Array Bool} {i : Nat} (h : i < listed.size) : Done (listed.setIfInBounds i true) = fun j => Done listed j ∨ j = i := by
  funext j
  unfold Done
  rw [Array.getD_eq_getD_getElem?, Array.getD_eq_getD_getElem?, Array.getElem?_setIfInBounds]
  by_cases hj : i = j
  · subst hj; simp [h]
  · rw [if_neg hj]
    simp only [eq_iff_iff]
    exact ⟨.inl, fun h => h.resolve_right fun e => hj e.symm⟩
theorem count_set {l : List Bool} : ∀ {i : Nat}, l[i]? = some false → (l.set i true).count false + 1 = l.count false := by
  induction l with
  | nil => intro i h; simp at h
  | cons x l ih =>
    intro i h
    cases i with
    | zero => simp only [List.getElem?_cons_zero, Option.some.injEq] at h; subst h; simp
    | succ i =>
      have := ih (by simpa using h)
      simp only [List.set_cons_succ, List.count_cons]
      omega
theorem any_ok {ro : Option Nat} (hp : Plan P nt ops L pos) (ht : Trace call round b L F T V) (hF : F 0 = fr0) (hcall : GoodCall P call) (hround : NoRound round)
    (hnew : ∀ (k : Nat) (x : COper), L[k]? = some x → x.op.cl = .n → b + x.ix < (T 0).next) (hS : ∀ (k : Nat) (x : COper), L[k]? = some x → x.op.cl = .n → S (b + x.ix)) (hg : Globs P ι0) {Q : Exit → Act → World → Prop}
    (hQ : ∀ (κ : Inj) (a' : Act) (w' : World), ExtF S ι0 base (T 0).get (T 0).next w0 κ (T L.length).get (T L.length).next w' → FR κ (F L.length) nt a'.tmps → a'.defers = ds → Q .normal a' w') :
    ∀ (fuel : Nat) (listed : Array Bool) (a : Act) (w : World) (K : Nat) (U : Nat → Option Ob) (ι : Inj), listed.size = ops.size → listed.toList.count false ≤ fuel → Inv ops L nt S b fr0 F T V ι0 base w0 ds (Done listed) a w K U ι → wpAnyIn (Wd ro) 0 P .any ops Q fuel listed a w := by
  intro fuel
  have fin : ∀ (listed : Array Bool) (a : Act) (w : World) (K : Nat) (U : Nat → Option Ob) (ι : Inj), listed.size = ops.size → Inv ops L nt S b fr0 F T V ι0 base w0 ds (Done listed) a w K U ι → Region.ready .any ops listed = [] → Q .normal a w := by
    intro listed a w K U ι hs I hr
    obtain ⟨h1, h2⟩ := I.finish hp ht hF (ready_all hp hs hr)
    exact hQ ι a w h1 h2 I.defers
  induction fuel with
  | zero =>
    intro listed a w K U ι hs hc I
    have hr : Region.ready .any ops listed = [] := by
      rw [List.eq_nil_iff_forall_not_mem]
      intro i hi
      obtain ⟨h1, o, ho, _⟩ := mem_ready.1 hi
      have hlt : i < listed.size := by rw [hs]; exact (Array.getElem?_eq_some_iff.1 ho).1
      rw [Array.getD_eq_getD_getElem?, Array.getElem?_eq_getElem hlt] at h1
      have hmem : false ∈ listed.toList := by
        rw [← h1]
        simp
      have := List.count_pos_iff.2 hmem
      omega
    exact ⟨hr, fin listed a w K U ι hs I hr⟩
  | succ fuel ih =>
    intro listed a w K U ι hs hc I
    refine ⟨fin listed a w K U ι hs I, ?_⟩
    intro i hi
    obtain ⟨h1, o, ho, he⟩ := mem_ready.1 hi
    have hlt : i < listed.size := by rw [hs]; exact (Array.getElem?_eq_some_iff.1 ho).1
    rw [Array.getD_eq_getD_getElem?, Array.getElem?_eq_getElem hlt] at h1
    have h1 : listed[i] = false := h1
    refine I.step hp ht hF hcall hround hnew hS hg ho (fun h => ?_) he fun a' w' K' U' κ I' => ?_
    · unfold Done at h
      rw [Array.getD_eq_getD_getElem?, Array.getElem?_eq_getElem hlt] at h
      have h : listed[i] = true := h
      rw [h1] at h; cases h
    · rw [← done_set hlt] at I'
      refine ih _ a' w' K' U' κ (by rw [Array.size_setIfInBounds]; exact hs) ?_ I'
      have := count_set (l := listed.toList) (i := i) (by rw [Array.getElem?_toList, Array.getElem?_eq_getElem hlt, h1])
      rw [Array.toList_setIfInBounds]
      omega
end
theorem reorder_plan {P : Program} {nt : Nat} {ops : Array Oper} {l L : List COper} (hl : ops.toList.zipIdx.mapM (fun (o, i) => rOper P nt ops o i) = some l) (h : reorder ops l = some L) : ∃ pos, Plan P nt ops L pos := by
  unfold reorder at h
  simp only at h
  split at h
  · cases h
  · rename_i ho
    have ho : once ops (Region.before ops) = true := by simpa using ho
    split at h
    · rename_i hg
      exact ⟨_, plan_good hl ho hg h⟩
    · split at h
      · rename_i hg
        exact ⟨_, plan_good hl ho hg h⟩
      · cases h
theorem draw_good {P : Program} (hm : P.follows .mixedOrders = true) : DrawGood P := by
  intro nt ops rid call round hcall hround news cs hr ro ι base fr fr' s s' w a Q hf hg r h hQ
  unfold rRegion at hr
  split at hr
  · rename_i l hl
    simp only [if_true] at hr
    split at hr
    · rename_i L hL
      cases hr
      obtain ⟨pos, hp⟩ := reorder_plan hl hL
      generalize hnn : (if (l.any fun o => o.op.cl == .n || (match o.op with | .rangeM _ => true | _ => false)) = true then l.length else 0) = nn at h
      obtain ⟨F, T, V, ht, hF, hT, hF', hT'⟩ := trace_of _ _ _ _ _ h
      obtain ⟨hl1, hl2⟩ := mapM_get hl
      rw [List.length_zipIdx, Array.length_toList (xs := ops)] at hl1
      have hn : ∀ (k : Nat) (x : COper), cs[k]? = some x → x.op.cl = .n → x.ix < nn := by
        intro k x hx hc
        obtain ⟨o, x0, h1, h2, _, h4, _⟩ := hp.op k x hx
        have hlt : x.ix < ops.size := (Array.getElem?_eq_some_iff.1 h1).1
        obtain ⟨y, h5, h6⟩ := hl2 x.ix (o, x.ix) (by rw [List.getElem?_zipIdx, Array.getElem?_toList, h1]; simp)
        simp only at h6
        rw [h2] at h6; cases h6
        have hany : (l.any fun o => o.op.cl == .n || (match o.op with | .rangeM _ => true | _ => false)) = true := List.any_eq_true.2 ⟨x0, List.mem_of_getElem? h5, by rw [← h4, hc]; rfl⟩
        rw [if_pos hany] at hnn
        omega
      refine wpIn_region_any hm ?_
      have hT0 : (T 0).next = s.next + nn := by rw [hT, St.skip_eq]; simp
      have hget : (T 0).get = s.get := by rw [hT, St.skip_eq]; funext c; simp
      have e0 : Ext none_ ι base s w ι (s.skip nn) { w with drawn := w.drawn + 1 } := by
        rw [St.skip_eq]
        have h1 : Ext none_ ι base s w ι s { w with drawn := w.drawn + 1 } := Ext.drew r _
        exact h1.trans (Ext.bump h1.rel nn)
      have e1 : RelF ι base (T 0).get (T 0).next { w with drawn := w.drawn + 1 } := by rw [hT]; exact e0.rel
      refine any_ok (fr0 := fr) (ds := a.defers) (S := mine s.next nn) hp ht hF hcall hround (fun k x hx hc => by rw [hT0]; have := hn k x hx hc; omega) (fun k x hx hc => ⟨by omega, by have := hn k x hx hc; omega⟩) hg
        (ι0 := ι) (base := base) (w0 := { w with drawn := w.drawn + 1 }) (fun κ a' w' g1 g2 g3 => ?_) ops.size (Array.replicate ops.size false) a _ 0 (T 0).get ι (by simp) (by simp) ?_
      · rw [hF'] at g2
        rw [hT', hT] at g1
        refine hQ κ a' w' ?_ g2 g3
        have h2 : Ext none_ ι base s w ι s { w with drawn := w.drawn + 1 } := Ext.drew r _
        exact h2.trans (Ext.skipped g1)
      · have hno : ∀ i, ¬ Done (Array.replicate ops.size false) i := by
          intro i hd
          unfold Done at hd
          rw [Array.getD_eq_getD_getElem?, Array.getElem?_replicate] at hd
          split at hd <;> cases hd
        have hfree : ∀ (x : COper), (T 0).get (s.next + x.ix) = none ∧ ι (s.next + x.ix) = none := fun x => by
          rw [hget]
          exact r.next _ (by omega)
        refine ⟨fun i o hd => (hno i hd).elim, fun k x _ => ⟨fun hd => (hno _ hd).elim, fun h => absurd h (Nat.not_lt_zero _)⟩, .inl rfl, Nat.zero_le _, e1, fun k x ob _ hd => (hno _ hd).elim, fun c _ => rfl, fun k x _ _ _ => (hfree x).1, fun k x _ _ _ => hfree x, fun k x t _ hd => (hno _ hd).elim, fun t _ => hf.val t, hf.size, rfl, ExtF.refl e1⟩
    · cases hr
  · cases hr
end Go.Ev

namespace Go.Ev
open Go (Sem)
section
variable {P : Program} {ι κ : Inj} {w w' : World} {base : Nat} {s s' : St}
theorem Ext.restored {q : Nat} {es : List (Value × Value)} {clk : Nat} {B : Blk} (r : Rel ι base s w) (hq : s.get q = some (.map es clk)) (hB : ι q = some B) (e : Ext none_ ι base (s.set q .dead) w κ s' w') (hdead : ∀ o, s'.get q = some o → live o = false) :
    Ext none_ ι base s w κ (s'.set q (.map es clk)) w' := by
  have hqlt : q < s.next := by
    rcases Nat.lt_or_ge q s.next with h | h
    · exact h
    · rw [(r.next q h).1] at hq; cases hq
  have hn : s.next ≤ s'.next := by have := e.next; simpa using this
  have away : ∀ a o Ba, s'.get a = some o → live o = true → κ a = some Ba → Ba.b ≠ B.b := by
    intro a o Ba ha hl hBa he
    have hb := r.blk q B hB
    obtain ⟨a0, o0, B0, f1, f2, _, f4, f5⟩ := e.img a o Ba ha hl hBa (by omega)
    rw [St.get_set] at f1
    by_cases h : q = a0
    · rw [if_pos h] at f1; cases f1; cases f2
    · rw [if_neg h] at f1
      exact r.sep q a0 _ o0 B B0 hq f1 h rfl f2 hB f4 (by omega)
  have hkeep : w'.heap[B.b]? = w.heap[B.b]? := by
    refine e.keep B.b (r.blk q B hB) fun a o Ba ha ho hBa he => ?_
    rw [St.get_set] at ha
    by_cases h : q = a
    · rw [if_pos h] at ha; cases ha; cases ho
    · rw [if_neg h] at ha
      exact r.sep q a _ o B Ba hq ha h rfl (owned_live ho) hB hBa he.symm
  have hκ := e.le _ _ hB
  have r' := e.rel
  have look : ∀ a o, (s'.set q (.map es clk)).get a = some o → (a = q ∧ o = .map es clk) ∨ (a ≠ q ∧ s'.get a = some o) := by
    intro a o ha
    rw [St.get_set] at ha
    by_cases h : q = a
    · rw [if_pos h] at ha; cases ha; exact .inl ⟨h.symm, rfl⟩
    · rw [if_neg h] at ha; exact .inr ⟨fun e => h e.symm, ha⟩
  refine ⟨e.le, ⟨?_, ?_, ?_, ?_, r'.blk, r'.base_le⟩, by rw [St.next_set]; exact hn, ?_, ?_, ?_, e.size, e.os, e.tape, e.output⟩
  · intro a o ha hl
    rcases look a o ha with ⟨rfl, rfl⟩ | ⟨h1, h2⟩
    · obtain ⟨B0, g1, g2⟩ := r.ob a _ hq rfl
      rw [hB] at g1; cases g1
      exact ⟨B, hκ, (g2.mono e.le).block hkeep⟩
    · exact r'.ob a o h2 hl
  · intro a a' o o' Ba Ba' ha ha' hne ho hl hBa hBa'
    rcases look a o ha with ⟨rfl, rfl⟩ | ⟨h1, h2⟩ <;> rcases look a' o' ha' with ⟨rfl, rfl⟩ | ⟨h3, h4⟩
    · exact absurd rfl hne
    · rw [hκ] at hBa; cases hBa
      exact (away a' o' Ba' h4 hl hBa').symm
    · rw [hκ] at hBa'; cases hBa'
      exact away a o Ba h2 (owned_live ho) hBa
    · exact r'.sep a a' o o' Ba Ba' h2 h4 hne ho hl hBa hBa'
  · intro a o Ba ha ho hBa
    rcases look a o ha with ⟨rfl, rfl⟩ | ⟨h1, h2⟩
    · rw [hκ] at hBa; cases hBa
      exact r.own a _ _ hq rfl hB
    · exact r'.own a o Ba h2 ho hBa
  · intro a ha
    rw [St.next_set] at ha
    obtain ⟨g1, g2⟩ := r'.next a ha
    rw [St.get_set_ne _ _ (by omega)]
    exact ⟨g1, g2⟩
  · intro a ha hs g1
    have hne : q ≠ a := fun h => by rw [← h, hq] at g1; cases g1
    have := e.gone a (by simpa using ha) hs (by rw [St.get_set, if_neg hne]; exact g1)
    rw [St.get_set, if_neg hne]
    exact this
  · intro b hb hno
    refine e.keep b hb fun a o Ba ha ho hBa he => ?_
    rw [St.get_set] at ha
    by_cases h : q = a
    · rw [if_pos h] at ha; cases ha; cases ho
    · rw [if_neg h] at ha; exact hno a o Ba ha ho hBa he
  · intro a o Ba ha hl hBa hlt
    rcases look a o ha with ⟨rfl, rfl⟩ | ⟨h1, h2⟩
    · rw [hκ] at hBa; cases hBa
      exact ⟨a, _, B, hq, rfl, fun h => h, hB, rfl⟩
    · obtain ⟨a0, o0, B0, f1, f2, f3, f4, f5⟩ := e.img a o Ba h2 hl hBa hlt
      rw [St.get_set] at f1
      by_cases h : q = a0
      · rw [if_pos h] at f1; cases f1; cases f2
      · rw [if_neg h] at f1
        exact ⟨a0, o0, B0, f1, f2, f3, f4, f5⟩
/- The model's operations. -/
theorem run_getIter {r : Nat} {m : Option Nat} {since stepped : Nat} {seen : Array Nat} (h : w.heap[r]? = some (.mapIter m since seen stepped)) : (getObj r).run P w = .ok (.mapIter m since seen stepped) w := by
  simp [getObj, Sem.run, h]
theorem run_setIter {r : Nat} {m : Option Nat} {since stepped : Nat} {seen : Array Nat} (o : Obj) (h : w.heap[r]? = some (.mapIter m since seen stepped)) : (setObj r o).run P w = .ok () { w with heap := w.heap.setIfInBounds r o } := by
  simp [setObj, Sem.run, h]
def leftOf (es : Array MapEntry) (seen : Array Nat) : List MapEntry := es.toList.filter fun e => !seen.contains e.born
theorem run_next_over {b : Nat} {since stepped : Nat} {seen : Array Nat} (h : w.heap[b]? = some (.mapIter none since seen stepped)) (ty : TypeId) : (Instr.next (.pointer (some ⟨b, 0, none⟩)) false ty).run P w = .ok no_ w := by
  simp [Instr.next, run_getIter h, Result.andThen]; rfl
section
variable {b m since clk : Nat} {seen : Array Nat} {es : Array MapEntry}
theorem next_body (hi : w.heap[b]? = some (.mapIter (some m) since seen clk)) (hm : w.heap[m]? = some (.map es clk)) (h1 : ∀ e ∈ es.toList, e.born < since) (h2 : ∀ e ∈ es.toList, e.born < clk) (ty : TypeId) :
    ∃ why : String, (Instr.next (.pointer (some ⟨b, 0, none⟩)) false ty).run P w = (do
      match ((if (leftOf es seen).toArray.isEmpty then #[none] else #[]) ++ (leftOf es seen).toArray.map some)[← choose (.mapNext ((if (leftOf es seen).toArray.isEmpty then #[none] else #[]) ++ (leftOf es seen).toArray.map some).size)]? with
      | some (some e) =>
        setObj b (.mapIter (some m) since (seen.push e.born) clk)
        pure (.tuple #[.bool true, e.key, e.val])
      | some none => pure (.tuple #[.bool false])
      | none => stuck why : Sem Value).run P w := by
  have hg : (!seen.isEmpty && !es.isEmpty && es.all (·.born ≥ clk)) = false := by
    cases he : es.isEmpty with
    | true => simp
    | false =>
      have : es.all (·.born ≥ clk) = false := by
        rw [Bool.eq_false_iff]
        intro h
        have hne : es.toList ≠ [] := by intro e; simp [e] at he; simp_all
        obtain ⟨x, hx⟩ := List.exists_mem_of_ne_nil _ hne
        have := Array.all_eq_true_iff_forall_mem.1 h x (by simpa using hx)
        have := h2 x hx
        simp only [ge_iff_le, decide_eq_true_eq] at *
        omega
      rw [this]; simp
  have hold : (es.filter (fun e => !seen.contains e.born)).filter (fun e => decide (e.born < since)) = (leftOf es seen).toArray := by
    apply Array.ext'
    simp only [Array.toList_filter, leftOf]
    rw [List.filter_eq_self]
    intro e he
    have := h1 e (List.mem_filter.1 he).1
    simpa using this
  have hnew : (es.filter (fun e => !seen.contains e.born)).filter (fun e => decide (e.born ≥ since)) = #[] := by
    apply Array.ext'
    simp only [Array.toList_filter, List.filter_eq_nil_iff]
    intro e he
    have := h1 e (List.mem_filter.1 he).1
    simp only [ge_iff_le, decide_eq_true_eq]
    omega
  simp only [Instr.next, Sem.run_bind, run_getIter hi, Result.andThen, run_getObj_map hm, hg, hold, hnew, Array.append_empty, Bool.false_eq_true, if_false]
  exact ⟨_, rfl⟩
theorem run_next_done (hi : w.heap[b]? = some (.mapIter (some m) since seen clk)) (hm : w.heap[m]? = some (.map es clk)) (h1 : ∀ e ∈ es.toList, e.born < since) (h2 : ∀ e ∈ es.toList, e.born < clk) (ty : TypeId) (hl : leftOf es seen = []) :
    (Instr.next (.pointer (some ⟨b, 0, none⟩)) false ty).run P w = .ok no_ w := by
  obtain ⟨why, hb⟩ := next_body hi hm h1 h2 ty
  rw [hb, hl]
  simp [choose, Sem.run, Question.forced, Result.andThen]; rfl
theorem run_next_take (hi : w.heap[b]? = some (.mapIter (some m) since seen clk)) (hm : w.heap[m]? = some (.map es clk)) (h1 : ∀ e ∈ es.toList, e.born < since) (h2 : ∀ e ∈ es.toList, e.born < clk) (ty : TypeId) (hl : leftOf es seen ≠ []) :
    ∃ e d, e ∈ leftOf es seen ∧ (Instr.next (.pointer (some ⟨b, 0, none⟩)) false ty).run P w = .ok (.tuple #[.bool true, e.key, e.val]) { w with heap := w.heap.setIfInBounds b (.mapIter (some m) since (seen.push e.born) clk), drawn := d } := by
  have hpos : 0 < (leftOf es seen).length := List.length_pos_iff.2 hl
  generalize hL : leftOf es seen = L at *
  have hemp : L.toArray.isEmpty = false := by simp [hl]
  have pick : ∀ (why : String) (i d : Nat) (hi2 : i < L.length), (match (L.toArray.map some)[i]? with
      | some (some e) => do
        setObj b (.mapIter (some m) since (seen.push e.born) clk)
        pure (.tuple #[.bool true, e.key, e.val])
      | some none => pure (.tuple #[.bool false])
      | none => stuck why : Sem Value).run P { w with drawn := d } = .ok (.tuple #[.bool true, L[i].key, L[i].val]) { w with heap := w.heap.setIfInBounds b (.mapIter (some m) since (seen.push L[i].born) clk), drawn := d } := by
    intro why i d hi2
    have e1 : (L.toArray.map some)[i]? = some (some L[i]) := by simp [hi2]
    rw [e1]
    have hi' : ({ w with drawn := d } : World).heap[b]? = some (.mapIter (some m) since seen clk) := hi
    simp only [Sem.run_bind, run_setIter _ hi', Result.andThen]
    rfl
  obtain ⟨why, hb⟩ := next_body hi hm h1 h2 ty
  rw [hb, hL, hemp]
  simp only [Bool.false_eq_true, if_false, Array.empty_append, Array.size_map, List.size_toArray]
  by_cases hf : L.length ≤ 1
  · refine ⟨L[0], w.drawn, List.getElem_mem _, ?_⟩
    have hch : (choose (.mapNext L.length)).run P w = .ok 0 w := by simp [Question.forced, hf]
    rw [Sem.run_bind, hch]
    exact pick _ 0 w.drawn hpos
  · have hlt : (Question.mapNext L.length).cut (w.tape w.drawn (.mapNext L.length)) < L.length := Nat.mod_lt _ hpos
    refine ⟨L[(Question.mapNext L.length).cut (w.tape w.drawn (.mapNext L.length))], w.drawn + 1, List.getElem_mem _, ?_⟩
    have hch : (choose (.mapNext L.length)).run P w = .ok ((Question.mapNext L.length).cut (w.tape w.drawn (.mapNext L.length))) { w with drawn := w.drawn + 1 } := by
      simp only [choose, Sem.run, Question.forced, hf, decide_false, Bool.false_eq_true, if_false]
    rw [Sem.run_bind, hch]
    exact pick _ _ (w.drawn + 1) hlt
theorem run_entry (hi : w.heap[b]? = some (.mapIter (some m) since seen clk)) (hm : w.heap[m]? = some (.map es clk)) (hnd : (es.toList.map (·.born)).Nodup) {e : MapEntry} (he : e ∈ es.toList) (hs : seen.back? = some e.born) :
    (Instr.entry (.pointer (some ⟨b, 0, none⟩))).run P w = .ok (.tuple #[e.key, e.val]) w := by
  have hf : es.find? (·.born == e.born) = some e := by
    rw [← Array.find?_toList]
    revert he hnd
    generalize es.toList = l
    intro hnd he
    induction l with
    | nil => simp at he
    | cons x l ih =>
      rw [List.map_cons, List.nodup_cons] at hnd
      rw [List.find?_cons]
      rcases List.mem_cons.1 he with rfl | he
      · simp
      · have hne : (x.born == e.born) = false := by
          rw [beq_eq_false_iff_ne]
          intro h
          exact hnd.1 (List.mem_map.2 ⟨e, he, h.symm⟩)
        rw [hne]
        exact ih hnd.2 he
  simp [Instr.entry, run_getIter hi, Result.andThen, hs, run_getObj_map hm, hf]
end
end
end Go.Ev

namespace Go.Ev
open Go (Sem)
def exB (id : Nat) (e : Ex) : Exit → Prop
  | .exit j => if j = id then e = .normal else e = .exit j
  | .ret => e = .ret
  | _ => False
abbrev Side := Option (Nat × Array MapEntry × Nat)
def Iter (w : World) (bi : Nat) (mo : Side) (seen : Array Nat) : Prop := match mo with
  | none => ∃ since stepped sn, w.heap[bi]? = some (.mapIter none since sn stepped)
  | some (m, _, clk) => w.heap[bi]? = some (.mapIter (some m) clk seen clk)
def Left (κ : Inj) (mo : Side) (es : List (Value × Value)) (seen : Array Nat) : Prop := match mo with
  | none => es = []
  | some (_, es', clk) => ∃ p : List (Value × Value), p.Perm es ∧ ER κ clk p (leftOf es' seen)
theorem picks_mem {α : Type} {l : List α} : ∀ {p : List α} {x : α} {a b : List α}, l = a ++ x :: b → ∃ r, (x, r) ∈ picks l ∧ r.Perm (a ++ b) := by
  intro p x a
  induction a generalizing l with
  | nil => intro b h; subst h; exact ⟨b, by show (x, b) ∈ ((x, b) :: _); simp, .refl _⟩
  | cons y a ih =>
    intro b h
    subst h
    obtain ⟨r, h1, h2⟩ := ih (l := a ++ x :: b) (b := b) rfl
    refine ⟨y :: r, ?_, h2.cons y⟩
    show (x, y :: r) ∈ ((y, a ++ x :: b) :: mapL (fun p => (p.1, y :: p.2)) (picks (a ++ x :: b)))
    rw [mapL_eq]
    refine List.mem_cons_of_mem _ (List.mem_map.2 ⟨(x, r), h1, rfl⟩)
theorem ER.mem_split {κ : Inj} {clk : Nat} {p : List (Value × Value)} {m : List MapEntry} (h : ER κ clk p m) {e : MapEntry} (he : e ∈ m) : ∃ (a b : List (Value × Value)) (x : Value × Value) (c d : List MapEntry), p = a ++ x :: b ∧ m = c ++ e :: d ∧ VR κ x.1 e.key ∧ VR κ x.2 e.val ∧ ER κ clk a c ∧ ER κ clk b d := by
  induction h with
  | nil => simp at he
  | @cons y e' l m h1 h2 h3 t ih =>
    by_cases heq : e = e'
    · subst heq
      exact ⟨[], l, y, [], m, rfl, rfl, h1, h2, .nil, t⟩
    · obtain ⟨a, b, x, c, d, g1, g2, g3, g4, g5, g6⟩ := ih ((List.mem_cons.1 he).resolve_left heq)
      exact ⟨y :: a, b, x, e' :: c, d, by rw [g1]; rfl, by rw [g2]; rfl, g3, g4, .cons h1 h2 h3 g5, g6⟩
theorem ER.nil_iff {κ : Inj} {clk : Nat} {p : List (Value × Value)} {m : List MapEntry} (h : ER κ clk p m) : p = [] ↔ m = [] := by
  cases h <;> simp
theorem Left.take {κ : Inj} {m clk : Nat} {es' : Array MapEntry} {es : List (Value × Value)} {seen : Array Nat} (h : Left κ (some (m, es', clk)) es seen) (hnd : (es'.toList.map (·.born)).Nodup) {e : MapEntry} (he : e ∈ leftOf es' seen) :
    ∃ x r, (x, r) ∈ picks es ∧ VR κ x.1 e.key ∧ VR κ x.2 e.val ∧ Left κ (some (m, es', clk)) r (seen.push e.born) := by
  obtain ⟨p, hp, her⟩ := h
  obtain ⟨a, b, x, c, d, g1, g2, g3, g4, g5, g6⟩ := her.mem_split he
  have hx : x ∈ es := hp.mem_iff.1 (by rw [g1]; simp)
  obtain ⟨u, v, huv⟩ := List.append_of_mem hx
  obtain ⟨r, h1, h2⟩ := picks_mem (p := []) huv
  refine ⟨x, r, h1, g3, g4, a ++ b, ?_, ?_⟩
  · refine List.Perm.trans ?_ h2.symm
    have : (a ++ x :: b).Perm (u ++ x :: v) := by rw [← g1, ← huv]; exact hp
    have h3 : (x :: (a ++ b)).Perm (x :: (u ++ v)) := (List.perm_middle.symm.trans this).trans List.perm_middle
    exact (List.perm_cons x).1 h3
  · have hl : leftOf es' (seen.push e.born) = c ++ d := by
      have hsub : (leftOf es' seen).Sublist es'.toList := List.filter_sublist
      have hnd2 : ((leftOf es' seen).map (·.born)).Nodup := hnd.sublist (hsub.map _)
      have : leftOf es' (seen.push e.born) = (leftOf es' seen).filter fun f => !(f.born == e.born) := by
        unfold leftOf
        rw [List.filter_filter]
        apply List.filter_congr
        intro f _
        rw [Array.contains_push]
        cases seen.contains f.born <;> cases h : (f.born == e.born) <;> simp [h] <;> simp_all [eq_comm]
      rw [this, g2] 
      rw [g2, List.map_append, List.map_cons] at hnd2
      rw [List.filter_append, List.filter_cons]
      have h0 : (!(e.born == e.born)) = false := by simp
      rw [h0]
      simp only [Bool.false_eq_true, if_false]
      have hnd3 := List.nodup_append.1 hnd2
      have hnd4 := List.nodup_cons.1 hnd3.2.1
      congr 1
      · rw [List.filter_eq_self]
        intro f hf
        have : f.born ≠ e.born := fun heq => hnd3.2.2 f.born (List.mem_map.2 ⟨f, hf, rfl⟩) e.born (by simp) heq
        simpa using this
      · rw [List.filter_eq_self]
        intro f hf
        have : f.born ≠ e.born := fun heq => hnd4.1 (List.mem_map.2 ⟨f, hf, heq⟩)
        simpa using this
    rw [hl]
    exact g5.append g6
theorem Left.none_iff {κ : Inj} {m clk : Nat} {es' : Array MapEntry} {es : List (Value × Value)} {seen : Array Nat} (h : Left κ (some (m, es', clk)) es seen) : es = [] ↔ leftOf es' seen = [] := by
  obtain ⟨p, hp, her⟩ := h
  rw [← her.nil_iff]
  constructor
  · rintro rfl; exact List.Perm.eq_nil hp
  · rintro rfl; exact List.Perm.eq_nil hp.symm
theorem Left.mono {κ μ : Inj} (hle : κ.le μ) {mo : Side} {es : List (Value × Value)} {seen : Array Nat} (h : Left κ mo es seen) : Left μ mo es seen := by
  cases mo with
  | none => exact h
  | some x =>
    obtain ⟨p, h1, h2⟩ := h
    exact ⟨p, h1, h2.mono hle⟩
theorem ops_step {ro : Option Nat} {P : Program} {ops : Array Oper} {Q : Exit → Act → World → Prop} {i : Nat} {rest : List Nat} {a : Act} {w w' : World} {o : Oper} {v : Value} (ho : ops[i]? = some o) (hg : o.guard = none) (hnd : ∀ c, o.op ≠ .defer c) (hrun : (execOp a.eval o).run P w = .ok (.value v) w') (h : wpOpsIn (Wd ro) 0 P ops Q rest (a.put o.dst v) w') : wpOpsIn (Wd ro) 0 P ops Q (i :: rest) a w := by
  show (match ops[i]? with
      | none => _
      | some o => if Region.wanted o (yielded ops a.tmps) then o.wpIn (Wd ro) 0 P a w (wpOpsIn (Wd ro) 0 P ops Q rest) Q else (∀ f, o.about P w a.eval = some f → (Wd ro).fn f) ∧ wpOpsIn (Wd ro) 0 P ops Q rest (a.put o.dst undef) w)
  rw [ho]
  simp only
  have hw : Region.wanted o (yielded ops a.tmps) = true := by unfold Region.wanted; rw [hg]
  rw [if_pos hw]
  refine ⟨fun _ _ => trivial, ?_⟩
  rw [Oper.semAt_eq _ _ _ hnd, hrun]
  exact h
end Go.Ev

namespace Go.Ev
open Go (Sem)
structure Loop (P : Program) (E : Env) (n nt : Nat) where
  ops1 : Array Oper
  ops2 : Array Oper
  body : Code
  r1 : Nat
  r2 : Nat
  tr : Nat
  tn : Nat
  tk : Nat
  te : Nat
  bid : Nat
  b2 : Nat
  pre2 : List COper
  n1 : Oper
  n2 : Oper
  e1 : Oper
  ty : TypeId
  hops1 : ops1.toList = [n1, n2]
  hn1 : n1.op = .next (.tmp tr) false ∧ n1.guard = none ∧ n1.dst = some tn
  hn2 : n2.op = .extract (.tmp tn) 0 ∧ n2.guard = none ∧ n2.dst = some tk
  he1 : ops2[0]? = some e1 ∧ e1.op = .entry (.tmp tr) ∧ e1.guard = none ∧ e1.dst = some te
  hpre2 : (ops2.toList.zipIdx.drop 1).mapM (fun (o, i) => rOper P nt ops2 o i) = some pre2
  ltr : tr < nt
  ltn : tn < nt
  ltk : tk < nt
  lte : te < nt
  ntr : tn ≠ tr
  ktr : tk ≠ tr
  kn : True
def Loop.code {P : Program} {E : Env} {n nt : Nat} (L : Loop P E n nt) : Code :=
  .seq (.region L.r1 L.ops1 false) (.seq (.cond (.tmp L.tk) .skip (.exit L.bid)) (.block L.b2 (.seq (.region L.r2 L.ops2 false) L.body)))
noncomputable def Loop.go {P : Program} {E : Env} {n nt : Nat} (L : Loop P E n nt) : Value × Value → Fr → St → RCL := fun e fr s =>
  ob (runOps (one1 (callF E (runC E n))) noRound s.next L.pre2 (fr.set L.te (.tuple ⟨[e.1, e.2]⟩)) (s.skip (newsOf L.ops2.size L.pre2))) fun r => kBlock L.b2 (runC E n (rCode P nt L.body) r.1 r.2)
section
variable {P : Program} {E : Env} {n nt : Nat}
theorem holds_eq {κ : Inj} {fr : Fr} {tr it : Nat} {tmps : Array Value} (h : holds fr tr it = true) (hf : FR κ fr nt tmps) {B : Blk} (hB : κ it = some B) (hsh : B.sh = 0) : tmps.getD tr Go.undef = .pointer (some ⟨B.b, 0, none⟩) := by
  unfold holds at h
  cases e : asAddr (orUndef (fr.get tr)) with
  | none => rw [e] at h; cases h
  | some ad =>
    rw [e] at h
    have h : addrEq ad ⟨it, 0, none⟩ = true := h
    have h2 := addrEq_eq h
    have hv := hf.val tr
    rw [asAddr_eq e, h2] at hv
    obtain ⟨a', e1, B', e2, _, e3⟩ := hv.ptrE
    rw [hB] at e2; cases e2
    rw [e1, e3, hsh]; rfl
def PostM (P : Program) (nt : Nat) (κ0 : Inj) (base : Nat) (sH : St) (wH : World) (ds : List Deferred) (bid : Nat) (l : List (Ex × Fr × St)) : Exit → Act → World → Prop := fun x a' w' =>
  ∃ out ∈ l, exB bid out.1 x ∧ Marks wH.heap.size w' ds a'.defers ∧ ∃ μ, Ext none_ κ0 base sH wH μ out.2.2 w' ∧ FR μ out.2.1 nt a'.tmps
theorem rest_ok {ro : Option Nat} {call : CallerL} (hcall : GoodCallL P call) {ops : Array Oper} {pre : List COper} (hpre : (ops.toList.zipIdx.drop 1).mapM (fun (o, i) => rOper P nt ops o i) = some pre) (hsz : 0 < ops.size) {Q : Exit → Act → World → Prop} {κ : Inj} {base : Nat} {fr fr' : Fr} {s s' : St} {w : World} {a : Act}
    (hf : FR κ fr nt a.tmps) (hg : Globs P κ) (r : Rel κ base s w) (h : runOps (one1 call) noRound s.next pre fr (s.skip (newsOf ops.size pre)) = some (fr', s'))
    (hQ : ∀ μ a' w', Ext none_ κ base s w μ s' w' → FR μ fr' nt a'.tmps → a'.defers = a.defers → Q .normal a' w') : wpOpsIn (Wd ro) 0 P ops Q (List.range' 1 (ops.size - 1)) a w := by
  have hlist : ops.toList.zipIdx.drop 1 = (ops.toList.drop 1).zipIdx 1 := by
    cases ops.toList <;> rfl
  rw [hlist] at hpre
  have hix : ∀ c ∈ pre, c.ix < ops.size := by
    intro c hc
    have key : ∀ (xs : List (Oper × Nat)) (ys : List COper), xs.mapM (fun (o, i) => rOper P nt ops o i) = some ys → ∀ c ∈ ys, ∃ x ∈ xs, c.ix = x.2 := by
      intro xs
      induction xs with
      | nil => intro ys h; simp at h; subst h; simp
      | cons x xs ih =>
        intro ys h
        rw [List.mapM_cons] at h
        obtain ⟨y, hy, h⟩ := Option.bind_eq_some_iff.1 h
        obtain ⟨ys2, hys, h⟩ := Option.bind_eq_some_iff.1 h
        cases h
        intro c hc
        rcases List.mem_cons.1 hc with rfl | hc
        · obtain ⟨_, _, e, _⟩ := rOper_eq hy
          exact ⟨x, by simp, by rw [e]⟩
        · obtain ⟨x2, hx2, e⟩ := ih ys2 hys c hc
          exact ⟨x2, by simp [hx2], e⟩
    obtain ⟨x, hx, e⟩ := key _ _ hpre c hc
    have := List.snd_lt_of_mem_zipIdx hx
    have hl : (ops.toList.drop 1).length = ops.size - 1 := by simp
    omega
  have hl : (ops.toList.drop 1).length = ops.size - 1 := by simp
  have := ops_one (ro := ro) (b := s.next) (n := newsOf ops.size pre) (base := base) (ds := a.defers) (Q := Q) (rest := []) hcall (ops.toList.drop 1) 1 (fun j hj => by rw [List.getElem?_drop, Array.getElem?_toList]) pre hpre ?_ κ fr fr' (s.skip (newsOf ops.size pre)) s' w a hf hg
    (by rw [St.skip_eq]; exact (Ext.bump (S := none_) r _).rel) rfl (by rw [St.skip_eq]; simp) ?_ h ?_
  · rw [List.append_nil, hl] at this; exact this
  · intro c hc hcl
    unfold newsOf
    rw [if_pos (List.any_eq_true.2 ⟨c, hc, by rw [hcl]; rfl⟩)]
    have := hix c hc
    omega
  · intro i _ hi
    rw [St.skip_eq]
    have := r.next (s.next + i) (by omega)
    exact ⟨by simpa using this.1, this.2⟩
  · intro μ a' w' e1 e2 e3
    exact hQ μ a' w' e1.skipped e2 e3
theorem rounds_ok {ro : Option Nat} (L : Loop P E n nt) (hrb : RoOk ro L.body) (hcode : CodeOk P E n) (hcall : GoodCallL P (callF E (runC E n))) {κ0 : Inj} {base : Nat} {sH : St} {wH : World} {ds : List Deferred} {it bi : Nat} {mo : Side} (hbi : wH.heap.size ≤ bi)
    (hmo : ∀ m es' clk, mo = some (m, es', clk) → m < wH.heap.size ∧ Off κ0 sH m ∧ wH.heap[m]? = some (.map es' clk) ∧ (∀ e ∈ es'.toList, e.born < clk) ∧ (es'.toList.map (·.born)).Nodup) :
    ∀ (N : Nat) (es : List (Value × Value)) (seen : Array Nat) (κ : Inj) (fr : Fr) (s : St) (w : World) (a : Act) (l : List (Ex × Fr × St)), FR κ fr nt a.tmps → Globs P κ → Ext none_ κ0 base sH wH κ s w → Off κ s bi → (∃ B, κ it = some B ∧ B.b = bi ∧ B.sh = 0) →
      Iter w bi mo seen → Left κ mo es seen → Marks wH.heap.size w ds a.defers → mapRounds L.tr L.tn L.tk it L.bid L.go N es fr s = some l → LoopWp ro P L.code (PostM P nt κ0 base sH wH ds L.bid l) a w := by
  intro N
  induction N with
  | zero => intro es seen κ fr s w a l _ _ _ _ _ _ _ _ h; cases h
  | succ N ih =>
    intro es seen κ fr s w a l hf hg e0 hoff hit hiter hleft hds h
    obtain ⟨hh, h1⟩ := must_eq.1 (show must (holds fr L.tr it) (List.casesOn es (some [(.normal, (fr.set L.tn no_).set L.tk (.bool false), s)]) (fun _ _ =>
      bindM (fun p => ob (L.go p.1 ((fr.set L.tn (.tuple ⟨[.bool true, p.1.1, p.1.2]⟩)).set L.tk (.bool true)) s) fun l => bindL l fun x => Ex.rec (mapRounds L.tr L.tn L.tk it L.bid L.go N p.2 x.2.1 x.2.2) (fun j => cnd (Nat.beq L.bid j) (some [(.normal, x.2)]) (some [x])) (some [x]) x.1) (picks es))) = some l from h)
    obtain ⟨B, hB, hBb, hBs⟩ := hit
    have hptr : a.tmps.getD L.tr Go.undef = .pointer (some ⟨bi, 0, none⟩) := by rw [holds_eq hh hf hB hBs, hBb]
    have hblt : bi < w.heap.size := by rw [← hBb]; exact e0.rel.blk it B hB
    have o1 : L.ops1[0]? = some L.n1 := by rw [← Array.getElem?_toList, L.hops1]; rfl
    have o2 : L.ops1[1]? = some L.n2 := by rw [← Array.getElem?_toList, L.hops1]; rfl
    have osz : L.ops1.size = 2 := by rw [← Array.length_toList, L.hops1]; rfl
    obtain ⟨n1a, n1b, n1c⟩ := L.hn1
    obtain ⟨n2a, n2b, n2c⟩ := L.hn2
    have front : ∀ (T T' : Value) (w1 : World) (b : Bool) (l0 l1 : List Value) (Q : Exit → Act → World → Prop), (Instr.next (.pointer (some ⟨bi, 0, none⟩)) false L.n1.type).run P w = .ok T' w1 → T = .tuple ⟨.bool b :: l0⟩ → VR κ T T' →
        (∀ a2, a2.defers = a.defers → FR κ ((fr.set L.tn T).set L.tk (.bool b)) nt a2.tmps → (Code.seq (.cond (.tmp L.tk) .skip (.exit L.bid)) (.block L.b2 (.seq (.region L.r2 L.ops2 false) L.body))).wpIn (Wd ro) 0 P Q a2 w1) →
        L.code.wpIn (Wd ro) 0 P Q a w := by
      intro T T' w1 b l0 l1 Q hrun hT hv hk
      refine wpIn_seq (wpIn_region ?_)
      rw [osz]
      show wpOpsIn (Wd ro) 0 P L.ops1 _ [0, 1] a w
      refine ops_step (v := T') (w' := w1) o1 n1b (by rw [n1a]; intro c h; cases h) ?_ ?_
      · simp only [execOp, n1a]
        refine run_v ?_
        have : a.eval (.tmp L.tr) = .pointer (some ⟨bi, 0, none⟩) := hptr
        rw [this]; exact hrun
      have hf1 : FR κ (fr.set L.tn T) nt (a.put L.n1.dst T').tmps := by rw [n1c]; exact hf.set L.ltn hv
      have hT1 : VR κ T ((a.put L.n1.dst T').eval (.tmp L.tn)) := by
        have := hf1.val L.tn
        rw [Tr.get_set, if_pos rfl] at this
        exact this
      rw [hT] at hT1
      obtain ⟨v', hv1, hv2⟩ := q_extract (P := P) (w := w1) (ρ := (a.put L.n1.dst T').eval) n2a (l := .bool b :: l0) (i := 0) (v := .bool b) rfl hT1
      refine ops_step (v := v') (w' := w1) o2 n2b (by rw [n2a]; intro c h; cases h) hv1 ?_
      have hf2 : FR κ ((fr.set L.tn T).set L.tk (.bool b)) nt ((a.put L.n1.dst T').put L.n2.dst v').tmps := by rw [n2c]; exact hf1.set L.ltk hv2
      exact hk _ (by rw [Act.put_defers', Act.put_defers']) hf2
    have cnd2 : ∀ (T : Value) (b : Bool) (a2 : Act) (w1 : World) (Q : Exit → Act → World → Prop), FR κ ((fr.set L.tn T).set L.tk (.bool b)) nt a2.tmps → (if b then (Code.block L.b2 (.seq (.region L.r2 L.ops2 false) L.body)).wpIn (Wd ro) 0 P Q a2 w1 else Q (.exit L.bid) a2 w1) →
        (Code.seq (.cond (.tmp L.tk) .skip (.exit L.bid)) (.block L.b2 (.seq (.region L.r2 L.ops2 false) L.body))).wpIn (Wd ro) 0 P Q a2 w1 := by
      intro T b a2 w1 Q hf2 hq
      have hb : a2.eval (.tmp L.tk) = .bool b := by
        have := hf2.val L.tk
        rw [Tr.get_set, if_pos rfl] at this
        exact this.boolE
      refine wpIn_seq (wpIn_cond hb ?_)
      cases b with
      | true => exact wpIn_skip hq
      | false => exact wpIn_exit hq
    cases es with
    | nil =>
      cases h1
      have hrun : (Instr.next (.pointer (some ⟨bi, 0, none⟩)) false L.n1.type).run P w = .ok no_ w := by
        cases mo with
        | none =>
          obtain ⟨since, stepped, sn, hi⟩ := hiter
          exact run_next_over hi _
        | some x =>
          obtain ⟨m, es', clk⟩ := x
          obtain ⟨m1, m2, m3, m4, m5⟩ := hmo m es' clk rfl
          have hm : w.heap[m]? = some (.map es' clk) := by rw [m2.keeps m1 e0]; exact m3
          exact run_next_done hiter hm m4 m4 _ (hleft.none_iff.1 rfl)
      refine loopWp_round (front no_ no_ w false [] [] _ hrun rfl (VR.tupI (.cons (.bool false) .nil)) fun a2 hd2 hf2 => cnd2 no_ false a2 w _ hf2 ?_)
      show PostM P nt κ0 base sH wH ds L.bid _ (.exit L.bid) a2 w
      exact ⟨_, List.mem_singleton.2 rfl, by show (if L.bid = L.bid then _ else _); rw [if_pos rfl], hd2 ▸ hds, κ, e0, hf2⟩
    | cons x0 es0 =>
      cases mo with
      | none => cases hleft
      | some side =>
        obtain ⟨m, es', clk⟩ := side
        obtain ⟨m1, m2, m3, m4, m5⟩ := hmo m es' clk rfl
        have hm : w.heap[m]? = some (.map es' clk) := by rw [m2.keeps m1 e0]; exact m3
        have hne : leftOf es' seen ≠ [] := fun hnil => by have := hleft.none_iff.2 hnil; cases this
        obtain ⟨e, d, he, hrun⟩ := run_next_take hiter hm m4 m4 L.n1.type hne
        obtain ⟨x, rr, hpick, hk, hv, hleft2⟩ := hleft.take m5 he
        obtain ⟨lo, g1, g2⟩ := bindM_eq h1 _ hpick
        obtain ⟨lg, g3, g4⟩ := ob_eq.1 g1
        simp only at g3 g4
        generalize hw1 : ({ w with heap := w.heap.setIfInBounds bi (.mapIter (some m) clk (seen.push e.born) clk), drawn := d } : World) = w1 at hrun
        have hw1s : w1.heap.size = w.heap.size := by rw [← hw1]; simp
        have hw1o : ∀ k, k ≠ bi → w1.heap[k]? = w.heap[k]? := by
          intro k hk2; rw [← hw1]; simp only [Array.getElem?_setIfInBounds]; rw [if_neg (fun h => hk2 h.symm)]
        have e1 : Ext none_ κ0 base sH wH κ s w1 := e0.aside hbi hoff hw1s hw1o (by rw [← hw1]) (by rw [← hw1]) (by rw [← hw1])
        have hi1 : w1.heap[bi]? = some (.mapIter (some m) clk (seen.push e.born) clk) := by
          rw [← hw1]; simp only [Array.getElem?_setIfInBounds, if_true, hblt]
        have hmb : m ≠ bi := by omega
        have hm1 : w1.heap[m]? = some (.map es' clk) := by rw [hw1o m hmb]; exact hm
        refine loopWp_round (front (.tuple ⟨[.bool true, x.1, x.2]⟩) _ w1 true [x.1, x.2] [] _ hrun rfl (VR.tupI (.cons (.bool true) (.cons hk (.cons hv .nil)))) fun a2 hd2 hf2 => cnd2 _ true a2 w1 _ hf2 ?_)
        obtain ⟨⟨fr3, s3⟩, g5, g6⟩ := ob_eq.1 (show ob (runOps (one1 (callF E (runC E n))) noRound s.next L.pre2 (((fr.set L.tn (.tuple ⟨[.bool true, x.1, x.2]⟩)).set L.tk (.bool true)).set L.te (.tuple ⟨[x.1, x.2]⟩)) (s.skip (newsOf L.ops2.size L.pre2))) (fun r => kBlock L.b2 (runC E n (rCode P nt L.body) r.1 r.2)) = some lg from g3)
        obtain ⟨lb, g7, g8⟩ := om_eq.1 g6
        simp only at g7
        obtain ⟨q1, q2, q3, q4⟩ := L.he1
        have hsz2 : 0 < L.ops2.size := (Array.getElem?_eq_some_iff.1 q1).1
        refine wpIn_block (wpIn_seq (wpIn_region ?_))
        have hrange : List.range L.ops2.size = 0 :: List.range' 1 (L.ops2.size - 1) := by
          rw [List.range_eq_range']
          obtain ⟨z, hz⟩ : ∃ z, L.ops2.size = z + 1 := ⟨L.ops2.size - 1, by omega⟩
          rw [hz, List.range'_succ]; rfl
        rw [hrange]
        refine ops_step (v := .tuple #[e.key, e.val]) (w' := w1) q1 q3 (by rw [q2]; intro c h; cases h) ?_ ?_
        · simp only [execOp, q2]
          refine run_v ?_
          have : a2.eval (.tmp L.tr) = .pointer (some ⟨bi, 0, none⟩) := by
            have h3 := hf2.val L.tr
            rw [Tr.get_set, if_neg L.ktr, Tr.get_set, if_neg L.ntr] at h3
            have h4 := hf.val L.tr
            rw [hptr] at h4
            have h5 : a2.tmps.getD L.tr Go.undef = .pointer (some ⟨bi, 0, none⟩) := by
              unfold holds at hh
              cases ea : asAddr (orUndef (fr.get L.tr)) with
              | none => rw [ea] at hh; cases hh
              | some ad =>
                rw [asAddr_eq ea] at h3 h4
                obtain ⟨u, eu, hu⟩ := h3.ptrE
                obtain ⟨u2, eu2, hu2⟩ := h4.ptrE
                cases eu2
                obtain ⟨B1, b1, _, b3⟩ := hu
                obtain ⟨B2, b4, _, b6⟩ := hu2
                rw [b1] at b4; cases b4
                rw [eu, b3, ← b6]
            exact h5
          rw [this]
          exact run_entry hi1 hm1 m5 (List.mem_filter.1 he).1 (by simp)
        have hf3 : FR κ (((fr.set L.tn (.tuple ⟨[.bool true, x.1, x.2]⟩)).set L.tk (.bool true)).set L.te (.tuple ⟨[x.1, x.2]⟩)) nt (a2.put L.e1.dst (.tuple #[e.key, e.val])).tmps := by
          rw [q4]; exact hf2.set L.lte (VR.tupI (.cons hk (.cons hv .nil)))
        refine rest_ok hcall L.hpre2 hsz2 hf3 hg e1.rel g5 fun μ a4 w4 e4 hf4 hd4 => ?_
        have hg4 : Globs P μ := hg.mono e4.le
        refine wpIn_mono (Goes.wp (hcode ro nt L.body μ base fr3 s3 w4 a4 lb hrb hf4 hg4 e4.rel g7)) ?_
        rintro x5 a5 w5 ⟨⟨ex5, fr5, s5⟩, hmem5, hx5, hd5, ν, e5, hf5⟩
        simp only at hx5 e5 hf5
        have e6 : Ext none_ κ base s w1 ν s5 w5 := e4.trans e5
        have e7 : Ext none_ κ0 base sH wH ν s5 w5 := e1.trans e6
        have hmem6 : blockEx L.b2 (ex5, fr5, s5) ∈ lg := by rw [← g8, mapL_eq]; exact List.mem_map.2 ⟨_, hmem5, rfl⟩
        have hds1 : Marks wH.heap.size w1 ds a4.defers := by
          rw [hd4, Act.put_defers', hd2]
          refine hds.keep fun b d hb => ?_
          rw [hw1o b (by rintro rfl; have hi0 : w.heap[b]? = some (.mapIter (some m) clk seen clk) := hiter; rw [hb] at hi0; cases hi0)]
          exact hb
        have hd6 : Marks wH.heap.size w5 ds a5.defers := (hds1.step e1.rel e4).after (by have := e1.size; have := e4.size; omega) e4.rel e5 hd5
        have hblt1 : bi < w1.heap.size := by omega
        have again : ∀ (hm7 : ((Ex.normal, fr5, s5) : Ex × Fr × St) ∈ lg), LoopWp ro P L.code (PostM P nt κ0 base sH wH ds L.bid l) a5 w5 := by
          intro hm7
          obtain ⟨l7, k1, k2⟩ := bindL_eq g4 _ hm7
          have hres := ih rr (seen.push e.born) ν fr5 s5 w5 a5 l7 hf5 (hg.mono e6.le) e7 (hoff.step hblt1 e6) ⟨B, e6.le _ _ hB, hBb, hBs⟩
            (by show w5.heap[bi]? = _; rw [hoff.keeps hblt1 e6]; exact hi1) (hleft2.mono e6.le) hd6 k1
          intro bb k cs hro
          obtain ⟨ee, aa, ww, ⟨out, ho, hrest⟩, harr⟩ := hres bb k cs hro
          exact ⟨ee, aa, ww, ⟨out, g2 _ (k2 _ ho), hrest⟩, harr⟩
        have leave : ∀ (ex : Ex) (xx : Exit), exB L.bid (Ex.rec (motive := fun _ => Ex) ex (fun j => cnd (Nat.beq L.bid j) .normal ex) ex ex) xx → ex ≠ .normal → ((ex, fr5, s5) : Ex × Fr × St) ∈ lg → PostM P nt κ0 base sH wH ds L.bid l xx a5 w5 := by
          intro ex xx hb hnn hm7
          obtain ⟨l7, k1, k2⟩ := bindL_eq g4 _ hm7
          cases ex with
          | normal => exact absurd rfl hnn
          | exit j =>
            have k1 : cnd (Nat.beq L.bid j) (some [((Ex.normal, fr5, s5) : Ex × Fr × St)]) (some [(.exit j, fr5, s5)]) = some l7 := k1
            have hb : exB L.bid (cnd (Nat.beq L.bid j) .normal (.exit j)) xx := hb
            rw [cnd_eq] at k1 hb
            split at k1
            · rename_i hc
              rw [if_pos hc] at hb
              cases k1
              exact ⟨_, g2 _ (k2 _ (List.mem_singleton.2 rfl)), hb, hd6, ν, e7, hf5⟩
            · rename_i hc
              rw [if_neg hc] at hb
              cases k1
              exact ⟨_, g2 _ (k2 _ (List.mem_singleton.2 rfl)), hb, hd6, ν, e7, hf5⟩
          | ret =>
            cases k1
            exact ⟨_, g2 _ (k2 _ (List.mem_singleton.2 rfl)), hb, hd6, ν, e7, hf5⟩
        cases ex5 with
        | normal =>
          cases x5 <;> first | exact hx5.elim | skip
          exact again hmem6
        | ret =>
          cases x5 <;> first | exact hx5.elim | skip
          exact leave .ret .ret rfl (by simp) hmem6
        | exit j =>
          cases x5 with
          | exit j2 =>
            have hx5 : j = j2 := hx5
            subst hx5
            have hbe : blockEx L.b2 (Ex.exit j, fr5, s5) = if j = L.b2 then (Ex.normal, fr5, s5) else (Ex.exit j, fr5, s5) := by
              show cnd (Nat.beq L.b2 j) (Ex.normal, fr5, s5) (Ex.exit j, fr5, s5) = _
              rw [cnd_eq]
              by_cases hi : j = L.b2
              · subst hi; simp
              · rw [if_neg hi, if_neg (by rw [Nat.beq_eq]; exact fun e => hi e.symm)]
            rw [hbe] at hmem6
            show (if j = L.b2 then _ else _)
            split
            · rename_i hj
              rw [if_pos hj] at hmem6
              exact again hmem6
            · rename_i hj
              rw [if_neg hj] at hmem6
              refine leave (.exit j) (.exit j) ?_ (by simp) hmem6
              show (if j = L.bid then (cnd (Nat.beq L.bid j) Ex.normal (Ex.exit j)) = .normal else (cnd (Nat.beq L.bid j) Ex.normal (Ex.exit j)) = .exit j)
              rw [cnd_eq]
              by_cases hj2 : j = L.bid
              · subst hj2; simp
              · rw [if_neg hj2, if_neg (by rw [Nat.beq_eq]; exact fun e => hj2 e.symm)]
          | _ => exact hx5.elim
end
end Go.Ev

namespace Go.Ev
open Go (Sem)
theorem exB_block {P : Program} {nt : Nat} {id : Nat} {Q : Exit → Act → World → Prop} {e : Ex} {x : Exit} {a : Act} {w : World} (h : exB id e x) (hn : e = .normal → Q .normal a w) (hx : ∀ j, e = .exit j → j ≠ id → Q (.exit j) a w) (hr : e = .ret → Q .ret a w) : Exit.inBlock id Q x a w := by
  cases x with
  | exit j =>
    have h : if j = id then e = .normal else e = .exit j := h
    show (if j = id then _ else _)
    split at h
    · rename_i hj; rw [if_pos hj]; exact hn h
    · rename_i hj; rw [if_neg hj]; exact hx j h hj
  | ret => exact hr h
  | _ => exact h.elim
theorem rangeAt_eq {ops : Array Oper} {t : TypeId} {x : Operand} {tr : Nat} (h : rangeAt ops = some (t, x, tr)) : ∃ o, ops.back? = some o ∧ o.op = .range t x ∧ o.guard = none ∧ o.dst = some tr := by
  unfold rangeAt at h
  split at h
  · rename_i o ho
    split at h
    · rename_i h1 h2 h3
      cases h
      exact ⟨o, ho, h1, h2, h3⟩
    · cases h
  · cases h
theorem nextAt_eq {ops : Array Oper} {tr tn tk : Nat} (h : nextAt ops tr = some (tn, tk)) : ∃ a b, ops.toList = [a, b] ∧ (a.op = .next (.tmp tr) false ∧ a.guard = none ∧ a.dst = some tn) ∧ (b.op = .extract (.tmp tn) 0 ∧ b.guard = none ∧ b.dst = some tk) := by
  unfold nextAt at h
  split at h
  · rename_i a b hab
    split at h
    · rename_i h1 h2 h3 h4 h5 h6
      split at h
      · rename_i hc
        simp only [Bool.and_eq_true, beq_iff_eq] at hc
        obtain ⟨rfl, rfl⟩ := hc
        cases h
        exact ⟨a, b, hab, ⟨h1, h2, h3⟩, ⟨h4, h5, h6⟩⟩
      · cases h
    · cases h
  · cases h
theorem entryAt_eq {ops : Array Oper} {tr te : Nat} (h : entryAt ops tr = some te) : ∃ a, ops[0]? = some a ∧ a.op = .entry (.tmp tr) ∧ a.guard = none ∧ a.dst = some te := by
  unfold entryAt at h
  split at h
  · rename_i a l hal
    split at h
    · rename_i h1 h2 h3
      split at h
      · rename_i hc
        rw [beq_iff_eq] at hc
        subst hc
        cases h
        exact ⟨a, by rw [← Array.getElem?_toList, hal]; rfl, h1, h2, h3⟩
      · cases h
    · cases h
  · cases h
theorem zipIdx_last {α : Type} : ∀ (l : List α) (k : Nat), (l.zipIdx k).dropLast = l.dropLast.zipIdx k
  | [], _ => rfl
  | [_], _ => rfl
  | x :: y :: l, k => by
    show (x, k) :: ((y :: l).zipIdx (k + 1)).dropLast = (x, k) :: ((y :: l).dropLast).zipIdx (k + 1)
    rw [zipIdx_last (y :: l) (k + 1)]
section
variable {P : Program}
theorem rMap_seq {nt : Nat} {a b : Code} {rb : CCode} {c x y : CCode} (h : rMap P nt a b rb = some c) : c ≠ .seq x y := by
  unfold rMap at h
  split at h
  · split at h
    · split at h
      · cases h; intro e; cases e
      · cases h
    · cases h
  · cases h
theorem map_good : MapGood P := by
  intro E n hcode hcall nt x y c hm ro ι base fr s w a l hro hf hg r h
  unfold rMap at hm
  split at hm
  case h_2 => cases hm
  rename_i rid ops bid r1 ops1 tk0 bx b2 r2 ops2 body
  split at hm
  case isFalse => cases hm
  rename_i hbx
  have hbx : bx = bid := by simpa using hbx
  subst hbx
  split at hm
  case h_2 => cases hm
  rename_i m bodyR hml hbd
  cases hm
  have hbody : bodyR = rCode P nt body := by
    have hbd : bodyOf (.block bx (.loop (.seq (rCode P nt (.region r1 ops1 false)) (.seq (rCode P nt (.cond (.tmp tk0) .skip (.exit bx))) (.block b2 ((rMap P nt (.region r2 ops2 false) body (rCode P nt body)).getD (.seq (rCode P nt (.region r2 ops2 false)) (rCode P nt body)))))))) = some bodyR := hbd
    cases hr : rMap P nt (.region r2 ops2 false) body (rCode P nt body) with
    | none => rw [hr] at hbd; cases hbd; rfl
    | some c' =>
      rw [hr] at hbd
      have hns := fun u v => rMap_seq (x := u) (y := v) hr
      cases c' <;> first | (cases hbd; done) | skip
      exact absurd rfl (hns _ _)
  subst hbody
  have hrb : RoOk ro body := by
    rcases hro with h | h
    · exact .inl h
    · refine .inr ?_
      simpa [noRF] using h
  unfold rMapLoop at hml
  split at hml
  · cases hml
  rename_i t x0 tr hra
  split at hml
  case h_2 => cases hml
  rename_i tn tk te pre l2 hnx hen hpre hl2
  split at hml
  case isFalse => cases hml
  rename_i hcond
  cases hml
  simp only [Bool.and_eq_true, beq_iff_eq, bne_iff_ne, ne_eq, decide_eq_true_eq] at hcond
  obtain ⟨⟨⟨⟨⟨⟨⟨⟨hmt, hpx⟩, htk⟩, hntr⟩, hktr⟩, hltr⟩, hltn⟩, hltk⟩, hlte⟩ := hcond
  subst htk
  obtain ⟨o, hback, ho1, ho2, ho3⟩ := rangeAt_eq hra
  obtain ⟨na, nb, hn1, hn2, hn3⟩ := nextAt_eq hnx
  obtain ⟨ea, he1⟩ := entryAt_eq hen
  let L : Loop P E n nt := { ops1 := ops1, ops2 := ops2, body := body, r1 := r1, r2 := r2, tr := tr, tn := tn, tk := tk, te := te, bid := bx, b2 := b2, pre2 := l2, n1 := na, n2 := nb, e1 := ea, ty := t, hops1 := hn1, hn1 := hn2, hn2 := hn3, he1 := he1, hpre2 := hl2, ltr := hltr, ltn := hltn, ltk := hltk, lte := hlte, ntr := hntr, ktr := hktr, kn := trivial }
  have hLc : L.code = .seq (.region r1 ops1 false) (.seq (.cond (.tmp tk) .skip (.exit bx)) (.block b2 (.seq (.region r2 ops2 false) body))) := rfl
  obtain ⟨⟨fr1, s1⟩, h1, h2⟩ := ob_eq.1 (show ob (runOps (one1 (callF E (runC E n))) noRound s.next pre fr (s.skip (newsOf ops.size pre))) (fun y => mapRangeC (rArg x0) tr tn tk bx L.go y.1 y.2) = some l from h)
  simp only at h2
  have hsz : 0 < ops.size := by
    rcases Nat.eq_zero_or_pos ops.size with h0 | h0
    · rw [Array.back?_eq_getElem?, h0, Array.getElem?_eq_none (by omega)] at hback; cases hback
    · exact h0
  have hlast : ops[ops.size - 1]? = some o := by rw [← Array.back?_eq_getElem?]; exact hback
  refine wpIn_seq (wpIn_region ?_)
  have hrange : List.range ops.size = List.range' 0 (ops.toList.dropLast).length ++ [ops.size - 1] := by
    rw [List.length_dropLast, Array.length_toList (xs := ops)]
    obtain ⟨z, hz⟩ : ∃ z, ops.size = z + 1 := ⟨ops.size - 1, by omega⟩
    rw [hz, List.range_succ, List.range_eq_range', Nat.add_sub_cancel]
  rw [hrange]
  have hpre' : (ops.toList.dropLast.zipIdx 0).mapM (fun (o, i) => rOper P nt ops o i) = some pre := by
    have : ops.toList.zipIdx.dropLast = ops.toList.dropLast.zipIdx 0 := zipIdx_last _ _
    rw [← this]; exact hpre
  have hix := (mapM_ix hpre').2
  have hdl : ops.toList.dropLast.length = ops.size - 1 := by rw [List.length_dropLast, Array.length_toList (xs := ops)]
  refine ops_one (b := s.next) (n := newsOf ops.size pre) (base := base) (ds := a.defers) hcall ops.toList.dropLast 0 (fun j hj => by
      rw [List.getElem?_dropLast, if_pos (by rw [hdl] at hj; rw [Array.length_toList (xs := ops)]; exact hj), Array.getElem?_toList, Nat.zero_add]) pre hpre' ?_ ι fr fr1 (s.skip (newsOf ops.size pre)) s1 w a hf hg
    (by rw [St.skip_eq]; exact (Ext.bump (S := none_) r _).rel) rfl (by rw [St.skip_eq]; simp) ?_ h1 ?_
  · intro c hc hcl
    unfold newsOf
    rw [if_pos (List.any_eq_true.2 ⟨c, hc, by rw [hcl]; rfl⟩)]
    have := hix c hc
    omega
  · intro i _ hi
    rw [St.skip_eq]
    have := r.next (s.next + i) (by omega)
    exact ⟨by simpa using this.1, this.2⟩
  intro κ a1 w1 e0' hf1 hd1
  have e0 : Ext none_ ι base s w κ s1 w1 := e0'.skipped
  have hg1 : Globs P κ := hg.mono e0.le
  have r1' := e0.rel
  obtain ⟨q, hq, h3⟩ := ob_eq.1 h2
  have hxv := arg_ok hf1 hg1 hpx
  rw [asMap_eq hq] at hxv
  have hT : ∃ kt et, P.underlying t = some (.map kt et) := by
    unfold isMapT at hmt
    split at hmt
    · rename_i kt et hu; exact ⟨kt, et, hu⟩
    · cases hmt
  obtain ⟨kt, et, hT⟩ := hT
  have fin : ∀ (obj : Obj) (mo : Side) (es : List (Value × Value)) (sH : St) (lr : List (Ex × Fr × St)) (hrun : (Instr.range t (a1.eval x0)).run P w1 = .ok (.pointer (some ⟨w1.heap.size, 0, none⟩)) { w1 with heap := w1.heap.push obj })
      (hsH : sH.next = s1.next) (rH : Rel κ base sH w1) (hobj : Iter { w1 with heap := w1.heap.push obj } w1.heap.size mo #[]) (hleft : Left κ mo es #[])
      (hmo : ∀ m es' clk, mo = some (m, es', clk) → m < w1.heap.size ∧ Off κ sH m ∧ w1.heap[m]? = some (.map es' clk) ∧ (∀ e ∈ es'.toList, e.born < clk) ∧ (es'.toList.map (·.born)).Nodup)
      (hm : mapRounds tr tn tk s1.next bx L.go (Nat.succ (lenL es)) es (fr1.set tr (ptr s1.next 0)) ((sH.set s1.next .dead).bump 1) = some lr)
      (hout : ∀ out ∈ lr, ∀ μ w', Ext none_ κ base sH w1 μ out.2.2 w' → ∃ out2 ∈ l, out2.1 = out.1 ∧ out2.2.1 = out.2.1 ∧ Ext none_ κ base s1 w1 μ out2.2.2 w'),
      wpOpsIn (Wd ro) 0 P ops (Exit.then ((Code.block bx (.loop L.code)).wpIn (Wd ro) 0 P (PostL P nt ι base s w a.defers l)) (PostL P nt ι base s w a.defers l)) [ops.size - 1] a1 w1 := by
    intro obj mo es sH lr hrun hsH rH hobj hleft hmo hm hout
    refine ops_step hlast ho2 (by rw [ho1]; intro c h; cases h) (by simp only [execOp, ho1]; exact run_v hrun) ?_
    show (Code.block bx (.loop L.code)).wpIn (Wd ro) 0 P _ _ _
    have hnew : Ext none_ κ base sH w1 (κ.put s1.next ⟨w1.heap.size, 0, 0, 0⟩) ((sH.set s1.next .dead).bump 1) { w1 with heap := w1.heap.push obj } := by
      have := Ext.newDead (S := none_) rH obj
      rw [hsH] at this; exact this
    have hf2 : FR (κ.put s1.next ⟨w1.heap.size, 0, 0, 0⟩) (fr1.set tr (ptr s1.next 0)) nt (a1.put o.dst (.pointer (some ⟨w1.heap.size, 0, none⟩))).tmps := by
      rw [ho3]
      exact (hf1.mono hnew.le).set hltr (.ptr (a' := ⟨w1.heap.size, 0, none⟩) ⟨_, Inj.put_same _ _ _, rfl, rfl⟩)
    have hoff : Off (κ.put s1.next ⟨w1.heap.size, 0, 0, 0⟩) ((sH.set s1.next .dead).bump 1) w1.heap.size := by
      intro a o B ha hl hB
      rw [St.get_bump, St.get_set] at ha
      by_cases he : s1.next = a
      · rw [if_pos he] at ha; cases ha; cases hl
      · rw [if_neg he] at ha
        rw [Inj.put_ne _ _ (fun h => he h.symm)] at hB
        have := rH.blk a B hB
        omega
    have hloop := rounds_ok (ro := ro) L hrb hcode hcall (κ0 := κ) (base := base) (sH := sH) (wH := w1) (ds := a.defers) (it := s1.next) (bi := w1.heap.size) (mo := mo) (Nat.le_refl _) hmo (Nat.succ (lenL es)) es #[] _ _ _ _ _ lr hf2 (hg1.mono hnew.le) hnew hoff
      ⟨_, Inj.put_same _ _ _, rfl, rfl⟩ hobj (hleft.mono hnew.le) (.of (by rw [Act.put_defers']; exact hd1)) hm
    refine wpIn_block (wpIn_mono (LoopWp.wp hloop) ?_)
    rintro xx a' w' ⟨out, hmem, hex, hd, μ, e2, hf3⟩
    obtain ⟨⟨ex2, f2, s2⟩, hm2, p1, p2, e3⟩ := hout out hmem μ w' e2
    simp only at p1 p2 e3
    subst p1
    have hpost : ∀ xx, exR out.1 xx → PostL P nt ι base s w a.defers l xx a' w' := fun xx hx => ⟨(out.1, f2, s2), hm2, hx, hd.low e0.size, μ, e0.trans e3, by rw [p2]; exact hf3⟩
    exact exB_block (nt := nt) (P := P) hex (fun he => hpost _ (by rw [he]; trivial)) (fun j he _ => hpost _ (by rw [he]; rfl)) (fun he => hpost _ (by rw [he]; trivial))
  cases q with
  | none =>
    have hv : a1.eval x0 = .map none := by
      rcases hxv.mapE with ⟨_, h⟩ | ⟨_, _, h, _⟩
      · exact h
      · cases h
    have h4 : mapRounds tr tn tk s1.next bx L.go 1 [] (fr1.set tr (ptr s1.next 0)) ((s1.set s1.next .dead).bump 1) = some l := h3
    refine fin (.mapIter none 0 #[] 0) none [] s1 l ?_ rfl r1' ⟨0, 0, #[], by simp⟩ rfl (fun m es' clk h => by cases h) h4 (fun out ho μ w' e => ⟨out, ho, rfl, rfl, e⟩)
    rw [hv]
    simp [Instr.range, run_underlying hT, newObj, Sem.run, Result.andThen]
  | some q =>
    obtain ⟨en, hen, h4⟩ := ob_eq.1 (show ob (asEnts (s1.get q)) (fun e => ob (rangeIn tr fr1 (s1.set q .dead) fun fr s' => mapRounds tr tn tk s1.next bx L.go (Nat.succ (lenL e.1)) e.1 fr s') fun l => optL (restore q e.1 e.2) l) = some l from h3)
    obtain ⟨lr, h5, h6⟩ := ob_eq.1 (show ob (mapRounds tr tn tk s1.next bx L.go (Nat.succ (lenL en.1)) en.1 (fr1.set tr (ptr s1.next 0)) (((s1.set q .dead).set s1.next .dead).bump 1)) (fun l => optL (restore q en.1 en.2) l) = some l from h4)
    obtain ⟨q', B, hqq, hB, hv⟩ : ∃ q' B, some q = some q' ∧ κ q' = some B ∧ a1.eval x0 = .map (some B.b) := by
      rcases hxv.mapE with ⟨h, _⟩ | ⟨q', B, h1, h2, h3⟩
      · cases h
      · exact ⟨q', B, h1, h2, h3⟩
    cases hqq
    have hget := asEnts_eq hen
    obtain ⟨B', hB', es', clk', hheap, hents⟩ := r1'.ob q _ hget rfl
    rw [hB] at hB'; cases hB'
    obtain ⟨hka, ⟨p, hperm, her⟩, hnd⟩ := hents
    have hqn : q ≠ s1.next := by
      intro e
      rw [e, (r1'.next s1.next (Nat.le_refl _)).1] at hget; cases hget
    have hborn : ∀ e ∈ es'.toList, e.born < clk' := by
      have key : ∀ {p : List (Value × Value)} {m : List MapEntry}, ER κ clk' p m → ∀ e ∈ m, e.born < clk' := by
        intro p m h
        induction h with
        | nil => simp
        | cons _ _ h3 _ ih =>
          intro e he
          rcases List.mem_cons.1 he with rfl | he
          · exact h3
          · exact ih e he
      exact key her
    have rH : Rel κ base (s1.set q .dead) w1 := (Ext.drop (S := none_) r1' q _ B hget rfl hB).rel
    have hoffm : Off κ (s1.set q .dead) B.b := by
      intro a o Ba ha hl hBa he
      rw [St.get_set] at ha
      by_cases hh : q = a
      · rw [if_pos hh] at ha; cases ha; cases hl
      · rw [if_neg hh] at ha
        exact r1'.sep q a _ o B Ba hget ha hh rfl hl hB hBa he.symm
    refine fin (.mapIter (some B.b) clk' #[] clk') (some (B.b, es', clk')) en.1 (s1.set q .dead) lr ?_ (by simp) rH ?_ ⟨p, hperm, ?_⟩ ?_ h5 ?_
    · rw [hv]
      simp [Instr.range, run_underlying hT, newObj, Sem.run, Result.andThen, run_getObj_map hheap]
    · show (w1.heap.push _)[w1.heap.size]? = _
      simp
    · have : leftOf es' #[] = es'.toList := by
        unfold leftOf
        rw [List.filter_eq_self]
        intro e _
        simp
      rw [this]; exact her
    · intro m e2 c2 heq
      cases heq
      exact ⟨r1'.blk q B hB, hoffm, hheap, hborn, hnd⟩
    · intro out hmem μ w' e2
      obtain ⟨out2, hm2, hres⟩ := optL_mem h6 out hmem
      obtain ⟨hdead, hres2⟩ := must_eq.1 hres
      cases hres2
      refine ⟨_, hm2, rfl, rfl, Ext.restored r1' hget hB e2 fun o ho => ?_⟩
      rw [ho] at hdead
      have hdead : (!live o) = true := hdead
      simpa using hdead
end
end Go.Ev

namespace Go.Ev
noncomputable section
abbrev Prim := List Value → St → R
def args1 (f : Value → St → R) : Prim := fun l s => List.casesOn l none (fun x r => List.casesOn r (f x s) (fun _ _ => none))
def Md.isEx (m : Md) : Bool := Md.rec false true false false false m
def pSame : Prim := args1 fun x s => some (x, s)
end
end Go.Ev

namespace Go.Ev
open Go (Sem)
def IsPrim (P : Program) (f : FuncId) (p : Prim) : Prop := ∀ (ι : Inj) (base : Nat) (s : St) (w : World) (args args' : List Value) (v : Value) (s' : St), Globs P ι → Rel ι base s w → LR ι args args' → p args s = some (v, s') →
    CallDo P f ⟨args'⟩ w fun v' w' => ∃ κ, Ext none_ ι base s w κ s' w' ∧ VR κ v v'
structure Entry (P : Program) (f : FuncId) (fn : Func) (e : Array Value → Sem Value) : Prop where
  func : P.funcs[f]? = some fn
  body : fn.body.isNone = true
  name : (fn.name == "runtime.NumGoroutine") = false
  next : (Extern.findNext fn).isNone = true
  find : Extern.find fn = some e
section
variable {P : Program} {f : FuncId} {fn : Func} {e : Array Value → Sem Value}
theorem Entry.run (E : Entry P f fn e) {args : Array Value} {w w' : World} {v : Value} (h : (e args).run P w = .ok v w') : (callFunc f args).run P w = .ok (.value v) w' := by
  have hn : Extern.findNext fn = none := Option.isNone_iff_eq_none.1 E.next
  have hb : fn.body = none := Option.isNone_iff_eq_none.1 E.body
  have hnm : ¬ fn.name = "runtime.NumGoroutine" := by simpa using E.name
  simp [callFunc, program, mark, Sem.run, E.func, Result.andThen, hn, E.find, h, hb, hnm]
theorem args1_eq {g : Value → St → R} {l : List Value} {s : St} {r : Value × St} (h : args1 g l s = some r) : ∃ x, l = [x] ∧ g x s = some r := by
  cases l with
  | nil => cases h
  | cons x l => cases l with
    | nil => exact ⟨x, rfl, h⟩
    | cons y l => cases h
theorem LR.one {ι : Inj} {x : Value} {m : List Value} (h : LR ι [x] m) : ∃ y, m = [y] ∧ VR ι x y := by
  cases h with
  | cons h t => cases t; exact ⟨_, rfl, h⟩
theorem LR.two {ι : Inj} {x y : Value} {m : List Value} (h : LR ι [x, y] m) : ∃ a b, m = [a, b] ∧ VR ι x a ∧ VR ι y b := by
  cases h with
  | cons h t => obtain ⟨b, rfl, h2⟩ := t.one; exact ⟨_, _, rfl, h, h2⟩
theorem isPrim_same (E : Entry P f fn Extern.AbiNoEscape.same) : IsPrim P f pSame := by
  intro ι base s w args args' v s' hg r ha h
  obtain ⟨x, rfl, h⟩ := args1_eq h
  cases h
  obtain ⟨y, rfl, hy⟩ := ha.one
  exact .inl ⟨y, w, E.run rfl, ι, Ext.refl r, hy⟩
end
end Go.Ev

namespace Go.Ev
open Go (Sem)
noncomputable section
def primIn (l : List (FuncId × Prim)) (f : FuncId) : Option Prim := List.rec none (fun p _ go => cnd (Nat.beq p.1 f) (some p.2) go) l
theorem primIn_mem {l : List (FuncId × Prim)} {f : FuncId} {p : Prim} (h : primIn l f = some p) : (f, p) ∈ l := by
  induction l with
  | nil => cases h
  | cons x l ih =>
    have h : cnd (Nat.beq x.1 f) (some x.2) (primIn l f) = some p := h
    rw [cnd_eq] at h
    split at h
    · rename_i hh
      rw [Nat.beq_eq] at hh
      cases h
      subst hh
      simp
    · exact List.mem_cons_of_mem _ (ih h)
def envOf (P : Program) (l : List (FuncId × Prim)) : Env := ⟨rFunc P, primIn l, rRound P⟩
theorem envOf_ok {P : Program} {l : List (FuncId × Prim)} (h : ∀ x ∈ l, IsPrim P x.1 x.2) : EnvOk P (envOf P l) :=
  ⟨fun f fn h => h, fun _ _ => rfl, fun f p hp => h (f, p) (primIn_mem hp)⟩
def namedB (P : Program) : Bool := P.funcs.toList.all fun fn => fn.body.isNone || fn.name != "runtime.NumGoroutine"
theorem named_of {P : Program} (h : namedB P = true) : Named P := by
  intro f fn hf hb hn
  have := List.all_eq_true.1 h fn (by rw [List.mem_iff_getElem?]; exact ⟨f, by rw [Array.getElem?_toList]; exact hf⟩)
  rw [Bool.or_eq_true] at this
  rcases this with h | h
  · rw [Option.isNone_iff_eq_none] at h; rw [h] at hb; cases hb
  · rw [hn] at h; exact absurd h (by decide)
def vTrue (v : Value) : Bool := Value.rec (motive_1 := fun _ => Bool) (motive_2 := fun _ => PUnit) (motive_3 := fun _ => PUnit) (fun b => b) (fun _ _ => false) (fun _ _ => false) (fun _ _ _ => false) (fun _ => false) (fun _ => false) (fun _ _ _ => false) (fun _ => false) (fun _ => false) (fun _ _ _ _ _ => false) false (fun _ _ _ => false) false (fun _ _ => false) (fun _ _ => false) (fun _ _ => ⟨⟩) ⟨⟩ (fun _ _ _ _ => ⟨⟩) v
def saysTrue (r : RL) : Bool := Option.rec false (fun l => List.rec true (fun x _ go => cnd (vTrue x.1) go false) l) r
theorem saysTrue_eq {r : RL} (h : saysTrue r = true) : ∃ l, r = some l ∧ ∀ x ∈ l, x.1 = .bool true := by
  cases r with
  | none => cases h
  | some l =>
    refine ⟨l, rfl, ?_⟩
    induction l with
    | nil => simp
    | cons x l ih =>
      have h : cnd (vTrue x.1) (saysTrue (some l)) false = true := h
      rw [cnd_eq] at h
      split at h
      · rename_i hx
        intro y hy
        rcases List.mem_cons.1 hy with rfl | hy
        · obtain ⟨v, s'⟩ := y
          have hx : vTrue v = true := hx
          show v = .bool true
          cases v with
          | bool b =>
            cases b with
            | true => rfl
            | false => cases hx
          | _ => cases hx
        · exact ih h y hy
      · cases h
theorem calls_true {P : Program} {E : Env} (hE : EnvOk P E) (hm : P.follows .mixedOrders = true) (hname : namedB P = true) {n : Nat} {f : FuncId} {args args' : List Value} {ι : Inj} {base : Nat} {s : St} {w : World}
    (hg : Globs P ι) (r : Rel ι base s w) (ha : LR ι args args') (h : saysTrue (callC E (runC E n) f args s) = true) :
    Calls P f ⟨args'⟩ w fun e w' => e = .returned (.bool true) ∧ Go.RowKit.Below base w w' := by
  obtain ⟨l, h1, hall⟩ := saysTrue_eq h
  obtain ⟨fn, hfn, h2⟩ := ob_eq.1 h1
  obtain ⟨l0, h3, h4⟩ := ob_eq.1 h2
  cases h4
  obtain ⟨h5, _⟩ := body_goes (code_ok hE (draw_good hm) map_good (named_of hname) n) (hE.code f fn hfn) hg r ha h3
  refine h5.mono fun e w' he => ?_
  cases e with
  | returned v =>
    obtain ⟨out, hmem, κ, e1, e2⟩ := he
    obtain ⟨out2, hmem2, κ2, e3, e4⟩ := merge_ok r hmem e1 e2
    rw [hall _ hmem2] at e4
    exact ⟨by rw [e4.boolE], e3.below r⟩
  | _ => exact he.elim
def globsB (P : Program) : Bool := (List.range P.globals.size).all fun g => (((begin P (fun _ _ => 0) default).world.heap[g]?).bind Obj.row?).isSome
theorem globs_size {P : Program} {w : World} (hb : globsB P = true) (h : w.ShapedOpen P) : P.globals.size ≤ w.heap.size := by
  rcases Nat.eq_zero_or_pos P.globals.size with h0 | h0
  · omega
  have := List.all_eq_true.1 hb (P.globals.size - 1) (List.mem_range.2 (by omega))
  cases e : ((begin P (fun _ _ => 0) default).world.heap[P.globals.size - 1]?).bind Obj.row? with
  | none => rw [e] at this; cases this
  | some zt =>
    obtain ⟨cs, h1, _⟩ := h.1 (P.globals.size - 1) zt.1 zt.2 (by omega) e
    have := (Array.getElem?_eq_some_iff.1 h1).1
    omega
end
end Go.Ev

namespace Go.Ev
def OLe {α : Type} (x y : Option α) : Prop := ∀ a, x = some a → y = some a
theorem OLe.refl {α : Type} (x : Option α) : OLe x x := fun _ h => h
theorem OLe.trans {α : Type} {x y z : Option α} (h : OLe x y) (k : OLe y z) : OLe x z := fun a e => k a (h a e)
theorem OLe.ob {α β : Type} {x y : Option α} {f g : α → Option β} (h : OLe x y) (k : ∀ a, OLe (f a) (g a)) : OLe (Ev.ob x f) (Ev.ob y g) := by
  intro b e
  obtain ⟨a, h1, h2⟩ := ob_eq.1 e
  rw [h a h1]; exact k a b h2
theorem OLe.om {α β : Type} {x y : Option α} {f : α → β} (h : OLe x y) : OLe (Ev.om x f) (Ev.om y f) := by
  intro b e
  obtain ⟨a, h1, h2⟩ := om_eq.1 e
  rw [h a h1]; exact congrArg some h2
theorem OLe.must {α : Type} {b : Bool} {x y : Option α} (h : OLe x y) : OLe (Ev.must b x) (Ev.must b y) := by
  cases b
  · intro a e; cases e
  · exact h
theorem OLe.cnd {α : Type} {b : Bool} {x y x' y' : Option α} (h : OLe x y) (k : OLe x' y') : OLe (Ev.cnd b x x') (Ev.cnd b y y') := by
  cases b
  · exact k
  · exact h
theorem OLe.oneL {α : Type} {x y : Option (List α)} (h : OLe x y) : OLe (Ev.oneL x) (Ev.oneL y) := OLe.ob h fun _ => OLe.refl _
theorem OLe.bindM {α β : Type} {f g : α → Option (List β)} (h : ∀ a, OLe (f a) (g a)) : ∀ l : List α, OLe (Ev.bindM f l) (Ev.bindM g l)
  | [] => OLe.refl _
  | x :: l => by
    rw [bindM_cons, bindM_cons]
    exact OLe.ob (h x) fun a => OLe.om (OLe.bindM h l)
theorem OLe.bindL {α β : Type} {f g : α → Option (List β)} (h : ∀ a, OLe (f a) (g a)) (l : List α) : OLe (Ev.bindL l f) (Ev.bindL l g) := by
  cases l with
  | nil => exact OLe.refl _
  | cons x l => cases l with
    | nil => exact h x
    | cons y l => exact OLe.bindM h (x :: y :: l)
theorem OLe.optL {α β : Type} {f : α → Option β} (l : List α) : OLe (Ev.optL f l) (Ev.optL f l) := OLe.refl _
def RecLe (r r' : Rec) : Prop := ∀ c fr s, OLe (r c fr s) (r' c fr s)
section
variable {E : Env} {r r' : Rec}
theorem callC_mono (h : RecLe r r') (f : FuncId) (args : List Value) (s : St) : OLe (callC E r f args s) (callC E r' f args s) :=
  OLe.ob (OLe.refl _) fun fn => OLe.ob (OLe.ob (h _ _ _) fun _ => OLe.refl _) fun _ => OLe.refl _
theorem callF_mono (h : RecLe r r') (f : FuncId) (args : List Value) (s : St) : OLe (callF E r f args s) (callF E r' f args s) := by
  unfold callF
  cases E.prim f with
  | none => exact callC_mono h f args s
  | some p => exact OLe.refl _
def CallLe (c c' : Caller) : Prop := ∀ f args s, OLe (c f args s) (c' f args s)
def CallLeL (c c' : CallerL) : Prop := ∀ f args s, OLe (c f args s) (c' f args s)
def RoundLeL (c c' : RounderL) : Prop := ∀ l args s, OLe (c l args s) (c' l args s)
theorem one1_mono {c c' : CallerL} (h : CallLeL c c') : CallLe (one1 c) (one1 c') := fun f args s => OLe.oneL (h f args s)
theorem callV_mono {c c' : Caller} (h : CallLe c c') {round : Rounder} (f : Value) (args : List Value) (s : St) : OLe (callV c round f args s) (callV c' round f args s) := by
  unfold callV
  refine OLe.ob (OLe.refl _) fun p => ?_
  cases fnId p.1 with
  | none => exact OLe.refl _
  | some g => exact h _ _ _
theorem oneOp_mono {c c' : Caller} (h : CallLe c c') {round : Rounder} (o : Cop) (fr : Fr) (s : St) (id : Nat) : OLe ((oneOp o).run c round fr s id) ((oneOp o).run c' round fr s id) := by
  cases o <;> first
    | exact OLe.refl _
    | exact h _ _ _
    | exact callV_mono h _ _ _
theorem runOps_mono {c c' : Caller} (h : CallLe c c') {round : Rounder} (b : Nat) : ∀ (ops : List COper) (fr : Fr) (s : St), OLe (runOps c round b ops fr s) (runOps c' round b ops fr s)
  | [], _, _ => OLe.refl _
  | o :: ops, fr, s => by
    have ih := runOps_mono h (round := round) b ops
    show OLe (stepOp c round b o (runOps c round b ops) fr s) (stepOp c' round b o (runOps c' round b ops) fr s)
    have hd : OLe (doOp c round b o (runOps c round b ops) fr s) (doOp c' round b o (runOps c' round b ops) fr s) := by
      refine OLe.ob (oneOp_mono h o.op fr s _) fun p => ?_
      cases o.again with
      | nil => exact ih _ _
      | cons _ _ => exact OLe.must (ih _ _)
    unfold stepOp
    cases o.guard with
    | none => exact hd
    | some g =>
      show OLe (Bool.rec (runOps c round b ops (putD fr o.dst undef) s) (doOp c round b o (runOps c round b ops) fr s) (wanted g fr) : RF) (Bool.rec (runOps c' round b ops (putD fr o.dst undef) s) (doOp c' round b o (runOps c' round b ops) fr s) (wanted g fr) : RF)
      cases wanted g fr
      · exact ih _ _
      · exact hd
theorem callVL_mono {c c' : CallerL} (h : CallLeL c c') {d d' : RounderL} (k : RoundLeL d d') (f : Value) (args : List Value) (s : St) : OLe (callVL c d f args s) (callVL c' d' f args s) := by
  unfold callVL
  refine OLe.ob (OLe.refl _) fun p => ?_
  cases fnId p.1 with
  | none => exact OLe.ob (OLe.refl _) fun l => k _ _ _
  | some g => exact h _ _ _
theorem oneOpL_mono {c c' : CallerL} (h : CallLeL c c') {d d' : RounderL} (k : RoundLeL d d') (o : Cop) (fr : Fr) (s : St) (id : Nat) : OLe ((oneOpL o).run c d fr s id) ((oneOpL o).run c' d' fr s id) := by
  cases o <;> first
    | exact OLe.refl _
    | exact h _ _ _
    | exact callVL_mono h k _ _ _
theorem runOpsL_mono {c c' : CallerL} (h : CallLeL c c') {d d' : RounderL} (k : RoundLeL d d') (b : Nat) : ∀ (ops : List COper) (fr : Fr) (s : St), OLe (runOpsL c d b ops fr s) (runOpsL c' d' b ops fr s)
  | [], _, _ => OLe.refl _
  | o :: ops, fr, s => by
    have ih := runOpsL_mono h k b ops
    show OLe (stepOpL c d b o (runOpsL c d b ops) fr s) (stepOpL c' d' b o (runOpsL c' d' b ops) fr s)
    have hd : OLe (doOpL c d b o (runOpsL c d b ops) fr s) (doOpL c' d' b o (runOpsL c' d' b ops) fr s) :=
      OLe.ob (oneOpL_mono h k o.op fr s _) fun l => OLe.bindL (fun p => ih _ _) l
    unfold stepOpL
    cases o.guard with
    | none => exact hd
    | some g =>
      show OLe (Bool.rec (runOpsL c d b ops (putD fr o.dst undef) s) (doOpL c d b o (runOpsL c d b ops) fr s) (wanted g fr) : RFL) (Bool.rec (runOpsL c' d' b ops (putD fr o.dst undef) s) (doOpL c' d' b o (runOpsL c' d' b ops) fr s) (wanted g fr) : RFL)
      cases wanted g fr
      · exact ih _ _
      · exact hd
theorem roundF_mono (h : RecLe r r') (res : Nat → Code → CCode) : RoundLeL (roundF r res) (roundF r' res) := by
  intro l args s
  refine OLe.ob (OLe.refl _) fun p => OLe.must (OLe.ob (h _ _ _) fun la => OLe.bindL (fun x => ?_) la)
  exact OLe.must (OLe.ob (OLe.refl _) fun p => OLe.must (OLe.ob (h _ _ _) fun _ => OLe.refl _))
theorem rangeF_mono (h : RecLe r r') (f : Arg) (nt : Nat) (ps : List Nat) (a b : Code) (fr : Fr) (s : St) : OLe (rangeF E r f nt ps a b fr s) (rangeF E r' f nt ps a b fr s) := by
  refine OLe.ob (OLe.refl _) fun p => OLe.ob (OLe.refl _) fun g => ?_
  cases E.prim g with
  | some _ => exact OLe.refl _
  | none => exact OLe.ob (callC_mono h _ _ _) fun _ => OLe.refl _
theorem kSeq_mono (h : RecLe r r') (b : CCode) {x y : RCL} (k : OLe x y) : OLe (kSeq r b x) (kSeq r' b y) :=
  OLe.ob k fun l => OLe.bindL (fun x => OLe.cnd (h _ _ _) (OLe.refl _)) l
theorem mapRounds_mono {tr tn tk it id : Nat} {go go' : Value × Value → Fr → St → RCL} (h : ∀ e fr s, OLe (go e fr s) (go' e fr s)) : ∀ (n : Nat) (es : List (Value × Value)) (fr : Fr) (s : St), OLe (mapRounds tr tn tk it id go n es fr s) (mapRounds tr tn tk it id go' n es fr s)
  | 0, _, _, _ => OLe.refl _
  | n + 1, es, fr, s => by
    refine OLe.must ?_
    cases es with
    | nil => exact OLe.refl _
    | cons e es =>
      refine OLe.bindM (fun p => OLe.ob (h _ _ _) fun l => OLe.bindL (fun x => ?_) l) _
      obtain ⟨ex, f2, s2⟩ := x
      cases ex with
      | normal => exact mapRounds_mono h n _ _ _
      | exit j => exact OLe.refl _
      | ret => exact OLe.refl _
theorem mapRangeC_mono {x : Arg} {tr tn tk id : Nat} {go go' : Value × Value → Fr → St → RCL} (h : ∀ e fr s, OLe (go e fr s) (go' e fr s)) (fr : Fr) (s : St) : OLe (mapRangeC x tr tn tk id go fr s) (mapRangeC x tr tn tk id go' fr s) := by
  refine OLe.ob (OLe.refl _) fun q => ?_
  cases q with
  | none => exact (show OLe (mapRounds tr tn tk s.next id go 1 [] _ _) (mapRounds tr tn tk s.next id go' 1 [] _ _) from mapRounds_mono h _ _ _ _)
  | some q => exact OLe.ob (OLe.refl _) fun e => OLe.ob (show OLe (mapRounds tr tn tk s.next id go (lenL e.1).succ e.1 _ _) (mapRounds tr tn tk s.next id go' (lenL e.1).succ e.1 _ _) from mapRounds_mono h _ _ _ _) fun _ => OLe.refl _
theorem stepC_mono (h : RecLe r r') (c : CCode) (fr : Fr) (s : St) : OLe ((stepC c).run E r fr s) ((stepC c).run E r' fr s) := by
  have h1 : CallLeL (callF E r) (callF E r') := fun f args s => callF_mono h f args s
  cases c with
  | region news ops => exact OLe.om (runOps_mono (one1_mono h1) _ _ _ _)
  | many news ops => exact OLe.om (runOpsL_mono h1 (roundF_mono h _) _ _ _ _)
  | seq a b => exact kSeq_mono h b (h _ _ _)
  | cond c a b => exact OLe.ob (OLe.refl _) fun x => OLe.cnd (h _ _ _) (h _ _ _)
  | block id b => exact OLe.om (h _ _ _)
  | loop b => exact kSeq_mono h _ (h _ _ _)
  | mapRange news0 pre x tr tn tk te news ops id b2 body =>
    refine OLe.ob (runOps_mono (one1_mono h1) _ _ _ _) fun y => mapRangeC_mono (fun e fr s => ?_) _ _
    exact OLe.ob (runOps_mono (one1_mono h1) _ _ _ _) fun q => OLe.om (h _ _ _)
  | rangeFunc f nt ps a b => exact rangeF_mono h f nt ps a b fr s
  | _ => exact OLe.refl _
theorem runC_succ (n : Nat) (c : CCode) (fr : Fr) (s : St) : runC E (n + 1) c fr s = (stepC c).run E (runC E n) fr s := rfl
theorem runC_mono1 : ∀ n, RecLe (runC E n) (runC E (n + 1))
  | 0 => fun c fr s a h => by cases h
  | n + 1 => fun c fr s => by rw [runC_succ, runC_succ]; exact stepC_mono (runC_mono1 n) c fr s
theorem runC_mono {n m : Nat} (h : n ≤ m) : RecLe (runC E n) (runC E m) := by
  induction h with
  | refl => exact fun _ _ _ => OLe.refl _
  | step _ ih => exact fun c fr s => OLe.trans (ih c fr s) (runC_mono1 _ c fr s)
end
end Go.Ev

namespace Go.Ev
noncomputable section
def W (E : Env) (c : CCode) (fr : Fr) (s : St) (Q : Ex → Fr → St → Prop) : Prop := ∃ n e fr' s', runC E n c fr s = some [(e, fr', s')] ∧ Q e fr' s'
def Cv (E : Env) (f : FuncId) (args : List Value) (s : St) (Q : Value → St → Prop) : Prop := ∃ n v s', callC E (runC E n) f args s = some [(v, s')] ∧ Q v s'
def pc (E : Env) : Caller := fun f args s => ob (E.prim f) fun p => p args s
section
variable {E : Env} {fr fr' : Fr} {s s' : St} {Q : Ex → Fr → St → Prop}
theorem pc_le (r : Rec) : CallLe (pc E) (one1 (callF E r)) := by
  intro f args s a h
  obtain ⟨p, h1, h2⟩ := ob_eq.1 h
  unfold one1 callF
  rw [h1]
  show oneL (om (p args s) fun r => [r]) = some a
  rw [h2]; rfl
theorem runOpsL_one {call : CallerL} {rd : RounderL} (b : Nat) : ∀ (ops : List COper) (fr : Fr) (s : St) (y : Fr × St), runOps (one1 call) noRound b ops fr s = some y → runOpsL call rd b ops fr s = some [y]
  | [], fr, s, y, h => by cases h; rfl
  | o :: ops, fr, s, y, h => by
    have ih := runOpsL_one (call := call) (rd := rd) b ops
    have h : stepOp (one1 call) noRound b o (runOps (one1 call) noRound b ops) fr s = some y := h
    show stepOpL call rd b o (runOpsL call rd b ops) fr s = some [y]
    have hd : doOp (one1 call) noRound b o (runOps (one1 call) noRound b ops) fr s = some y → doOpL call rd b o (runOpsL call rd b ops) fr s = some [y] := by
      intro h
      obtain ⟨p, h1, h2⟩ := ob_eq.1 (show ob ((oneOp o.op).run (one1 call) noRound fr s (b + o.ix)) (fun r => List.rec (runOps (one1 call) noRound b ops (putD fr o.dst r.1) r.2) (fun _ _ _ => must (againOk fr r.2 o.again) (runOps (one1 call) noRound b ops (putD fr o.dst r.1) r.2)) o.again) = some y from h)
      have h3 : runOps (one1 call) noRound b ops (putD fr o.dst p.1) p.2 = some y := by
        revert h2
        cases o.again with
        | nil => exact id
        | cons x l => exact fun h => (must_eq.1 h).2
      have h4 : (oneOpL o.op).run call rd fr s (b + o.ix) = some [p] := by
        clear h2 h3
        generalize o.op = op at h1 ⊢
        cases op with
        | callF f args => exact oneL_eq h1
        | callV f args =>
          obtain ⟨q, e1, e2⟩ := ob_eq.1 (show ob (asFunc (f.ev fr)) (fun q => Option.rec (ob (fnYield q.1) fun l => noRound l (appL q.2.1 (evL fr args)) s) (fun g => one1 call g (appL q.2.1 (appL (evL fr args) q.2.2)) s) (fnId q.1)) = some p from h1)
          show callVL call rd (f.ev fr) (evL fr args) s = _
          unfold callVL
          rw [e1]
          show Option.rec (ob (fnYield q.1) fun l => rd l (appL q.2.1 (evL fr args)) s) (fun g => call g (appL q.2.1 (appL (evL fr args) q.2.2)) s) (fnId q.1) = some [p]
          cases hg : fnId q.1 with
          | none =>
            rw [hg] at e2
            obtain ⟨_, _, e3⟩ := ob_eq.1 (show ob (fnYield q.1) (fun l => noRound l (appL q.2.1 (evL fr args)) s) = some p from e2)
            cases e3
          | some g => rw [hg] at e2; exact oneL_eq e2
        | _ => exact congrArg (fun x => om x fun r => [r]) h1
      show ob ((oneOpL o.op).run call rd fr s (b + o.ix)) _ = _
      rw [h4]
      exact ih _ _ _ h3
    revert h
    unfold stepOp stepOpL
    cases o.guard with
    | none => exact hd
    | some g =>
      show (Bool.rec (runOps (one1 call) noRound b ops (putD fr o.dst undef) s) (doOp (one1 call) noRound b o (runOps (one1 call) noRound b ops) fr s) (wanted g fr) : RF) = some y → (Bool.rec (runOpsL call rd b ops (putD fr o.dst undef) s) (doOpL call rd b o (runOpsL call rd b ops) fr s) (wanted g fr) : RFL) = some [y]
      cases wanted g fr
      · exact ih _ _ _
      · exact hd
theorem W.mono {c : CCode} {Q' : Ex → Fr → St → Prop} (h : W E c fr s Q) (k : ∀ e fr s, Q e fr s → Q' e fr s) : W E c fr s Q' :=
  let ⟨n, e, f, s, h1, h2⟩ := h; ⟨n, e, f, s, h1, k _ _ _ h2⟩
theorem W_skip (h : Q .normal fr s) : W E .skip fr s Q := ⟨1, _, _, _, rfl, h⟩
theorem W_ret (h : Q .ret fr s) : W E .ret fr s Q := ⟨1, _, _, _, rfl, h⟩
theorem W_exit {id : Nat} (h : Q (.exit id) fr s) : W E (.exit id) fr s Q := ⟨1, _, _, _, rfl, h⟩
theorem W_region {news : Nat} {ops : List COper} (h : runOps (pc E) noRound s.next ops fr (s.skip news) = some (fr', s')) (hq : Q .normal fr' s') : W E (.region news ops) fr s Q := by
  refine ⟨1, _, _, _, ?_, hq⟩
  show om (runOps (one1 (callF E (runC E 0))) noRound s.next ops fr (s.skip news)) (fun r => [(Ex.normal, r.1, r.2)]) = _
  rw [runOps_mono (pc_le _) _ _ _ _ _ h]; rfl
theorem W_seq {a b : CCode} (h : W E a fr s fun e fr s => Ex.casesOn e (W E b fr s Q) (fun i => Q (.exit i) fr s) (Q .ret fr s)) : W E (.seq a b) fr s Q := by
  obtain ⟨n, e, f1, s1, h1, h2⟩ := h
  cases e with
  | normal =>
    obtain ⟨m, e, f2, s2, h3, h4⟩ := h2
    refine ⟨max n m + 1, e, f2, s2, ?_, h4⟩
    show kSeq (runC E (max n m)) b (runC E (max n m) a fr s) = _
    rw [runC_mono (Nat.le_max_left n m) _ _ _ _ h1]
    exact runC_mono (Nat.le_max_right n m) _ _ _ _ h3
  | exit i =>
    refine ⟨n + 1, .exit i, f1, s1, ?_, h2⟩
    show kSeq (runC E n) b (runC E n a fr s) = _
    rw [h1]; rfl
  | ret =>
    refine ⟨n + 1, .ret, f1, s1, ?_, h2⟩
    show kSeq (runC E n) b (runC E n a fr s) = _
    rw [h1]; rfl
theorem W_cond {c : Arg} {a b : CCode} {x : Bool} (hc : c.ev fr = .bool x) (h : if x then W E a fr s Q else W E b fr s Q) : W E (.cond c a b) fr s Q := by
  have key : ∀ d, W E d fr s Q → (∀ n, runC E (n + 1) (.cond c a b) fr s = runC E n d fr s) → W E (.cond c a b) fr s Q := by
    rintro d ⟨n, e, f1, s1, h1, h2⟩ hn
    exact ⟨n + 1, e, f1, s1, by rw [hn]; exact h1, h2⟩
  cases x with
  | true =>
    refine key a h fun n => ?_
    show ob (asBool (c.ev fr)) (fun x => cnd x (runC E n a fr s) (runC E n b fr s)) = _
    rw [hc]; rfl
  | false =>
    refine key b h fun n => ?_
    show ob (asBool (c.ev fr)) (fun x => cnd x (runC E n a fr s) (runC E n b fr s)) = _
    rw [hc]; rfl
theorem W_block {id : Nat} {b : CCode} (h : W E b fr s fun e fr s => Q (blockEx id (e, fr, s)).1 fr s) : W E (.block id b) fr s Q := by
  obtain ⟨n, e, f1, s1, h1, h2⟩ := h
  refine ⟨n + 1, _, f1, s1, ?_, h2⟩
  show kBlock id (runC E n b fr s) = _
  rw [h1]
  show some [blockEx id (e, f1, s1)] = _
  have : (blockEx id (e, f1, s1)).2 = (f1, s1) := by
    cases e with
    | exit j =>
      show (cnd (Nat.beq id j) (Ex.normal, f1, s1) (Ex.exit j, f1, s1)).2 = _
      cases Nat.beq id j <;> rfl
    | _ => rfl
  rw [show blockEx id (e, f1, s1) = ((blockEx id (e, f1, s1)).1, f1, s1) from Prod.ext rfl this]
theorem W_loop {b : CCode} (h : W E b fr s fun e fr s => Ex.casesOn e (W E (.loop b) fr s Q) (fun i => Q (.exit i) fr s) (Q .ret fr s)) : W E (.loop b) fr s Q := by
  obtain ⟨n, e, f1, s1, h1, h2⟩ := W_seq h
  exact ⟨n + 1, e, f1, s1, by
    cases n with
    | zero => cases h1
    | succ n =>
      have h1 : kSeq (runC E n) (.loop b) (runC E n b fr s) = some [(e, f1, s1)] := h1
      have : kSeq (runC E (n + 1)) (.loop b) (runC E (n + 1) b fr s) = some [(e, f1, s1)] := kSeq_mono (runC_mono1 n) _ (runC_mono1 n _ _ _) _ h1
      exact this, h2⟩
theorem W_inv {b : CCode} (I : Nat → Fr → St → Prop) (h : ∀ n fr s, I n fr s → W E b fr s fun e fr s => Ex.casesOn e (∃ m, m < n ∧ I m fr s) (fun i => Q (.exit i) fr s) (Q .ret fr s)) : ∀ n fr s, I n fr s → W E (.loop b) fr s Q := by
  intro n
  induction n using Nat.strongRecOn with
  | ind n ih =>
    intro fr s hi
    refine W_loop ((h n fr s hi).mono fun e f1 s1 k => ?_)
    cases e with
    | normal => obtain ⟨m, h1, h2⟩ := k; exact ih m h1 _ _ h2
    | exit i => exact k
    | ret => exact k
theorem Cv_of {f : FuncId} {fn : CFunc} {args : List Value} {Q : Value → St → Prop} (hf : E.code f = some fn)
    (h : W E fn.body (Tr.ofList .e 0 args) s fun e fr s' => isExit e = false ∧ ∃ l, optL (oneRes fr s') fn.res = some l ∧ Q (tupled l) s') : Cv E f args s Q := by
  obtain ⟨n, e, f1, s1, h1, h2, l, h3, h4⟩ := h
  refine ⟨n, tupled l, s1, ?_, h4⟩
  show ob (E.code f) (fun fn => ob (ended fn (runC E n fn.body (Tr.ofList .e 0 args) s)) fun l => some (mergeL s l)) = _
  rw [hf]
  show ob (ended fn (runC E n fn.body (Tr.ofList .e 0 args) s)) (fun l => some (mergeL s l)) = _
  rw [h1]
  have : ended fn (some [(e, f1, s1)]) = some [(tupled l, s1)] := by
    show optL (fun r : Ex × Fr × St => cnd (isExit r.1) none (om (optL (oneRes r.2.1 r.2.2) fn.res) fun l => (tupled l, r.2.2))) [(e, f1, s1)] = _
    rw [optL_cons]
    simp only
    rw [h2]
    show ob (om (optL (oneRes f1 s1) fn.res) fun l => (tupled l, s1)) _ = _
    rw [h3]; rfl
  rw [this]; rfl
end
end
end Go.Ev

namespace Go.Ev
section
variable {ι κ κ0 : Inj} {π : Nat → Nat} {n : Nat}
end
end Go.Ev

namespace Go.Ev
section
variable {call : Caller} {b : Nat} {fr : Fr} {s : St} {id : Nat}
theorem ops_nil : runOps call noRound b [] fr s = some (fr, s) := rfl
theorem ops_plain (d : Option Nat) (op : Cop) (ix : Nat) (ops : List COper) : runOps call noRound b (⟨d, op, none, ix, []⟩ :: ops) fr s = ob ((oneOp op).run call noRound fr s (b + ix)) fun r => runOps call noRound b ops (putD fr d r.1) r.2 := rfl
theorem ops_guard (d : Option Nat) (op : Cop) (t : Option Nat) (x : Bool) (ix : Nat) (ops : List COper) :
    runOps call noRound b (⟨d, op, some (t, x), ix, []⟩ :: ops) fr s = if wanted (t, x) fr = true then (ob ((oneOp op).run call noRound fr s (b + ix)) fun r => runOps call noRound b ops (putD fr d r.1) r.2) else runOps call noRound b ops (putD fr d undef) s := by
  show (Bool.rec _ _ (wanted (t, x) fr) : RF) = _
  cases wanted (t, x) fr <;> rfl
theorem ops_again (d : Option Nat) (op : Cop) (ix : Nat) (y : Option Nat × Cop × Option (Option Nat × Bool)) (ag : List (Option Nat × Cop × Option (Option Nat × Bool))) (ops : List COper) :
    runOps call noRound b (⟨d, op, none, ix, y :: ag⟩ :: ops) fr s = ob ((oneOp op).run call noRound fr s (b + ix)) fun r => must (againOk fr r.2 (y :: ag)) (runOps call noRound b ops (putD fr d r.1) r.2) := rfl
theorem ev_t (n : Nat) : (Arg.t n).ev fr = orUndef (fr.get n) := rfl
theorem ev_c (v : Value) : (Arg.c v).ev fr = v := rfl
theorem orUndef_some (v : Value) : orUndef (some v) = v := rfl
theorem putD_some (d : Nat) (v : Value) : putD fr (some d) v = fr.set d v := rfl
theorem putD_none (v : Value) : putD fr none v = fr := rfl
theorem evL_nil : evL fr [] = [] := rfl
theorem evL_cons (a : Arg) (l : List Arg) : evL fr (a :: l) = a.ev fr :: evL fr l := rfl
theorem evP_nil : evP fr [] = [] := rfl
theorem evP_cons (p : Nat × Nat × Arg) (l : List (Nat × Nat × Arg)) : evP fr (p :: l) = (p.1, p.2.1, p.2.2.ev fr) :: evP fr l := rfl
theorem evO_none : evO fr none = none := rfl
theorem evO_some (a : Arg) : evO fr (some a) = some (a.ev fr) := rfl
theorem st_mov (x : Arg) : (oneOp (.mov x)).run call noRound fr s id = some (x.ev fr, s) := rfl
theorem st_pick (c x y : Arg) : (oneOp (.pick c x y)).run call noRound fr s id = om (asBool (c.ev fr)) fun q => (cnd q (x.ev fr) (y.ev fr), s) := rfl
theorem st_bin (op : BinOp) (x y : Arg) : (oneOp (.bin op x y)).run call noRound fr s id = om (binOp op (x.ev fr) (y.ev fr)) fun v => (v, s) := rfl
theorem st_un (op : UnOp) (x : Arg) : (oneOp (.un op x)).run call noRound fr s id = om (unOp op (x.ev fr)) fun v => (v, s) := rfl
theorem st_eqBool (neg : Bool) (x y : Arg) : (oneOp (.eqBool neg x y)).run call noRound fr s id = om ((cellEq .bool).run (x.ev fr) (y.ev fr)) fun b => (tf neg b, s) := rfl
theorem st_eqNil (neg : Bool) (k : NK) (x : Arg) : (oneOp (.eqNil neg k x)).run call noRound fr s id = om (isNil k (x.ev fr)) fun b => (tf neg b, s) := rfl
theorem st_eqCells (neg : Bool) (n : Nat) (ks : List (Nat × CK)) (x y : Arg) : (oneOp (.eqCells neg n ks x y)).run call noRound fr s id = ob (asAgg (x.ev fr)) fun a => ob (asAgg (y.ev fr)) fun b => must (Nat.beq (lenL a) n) (must (Nat.beq (lenL b) n) (om (placesEq ks a b) fun b => (tf neg b, s))) := rfl
theorem st_eqPtr (neg : Bool) (x y : Arg) : (oneOp (.eqPtr neg x y)).run call noRound fr s id = ob (asPtr (x.ev fr)) fun a => ob (asPtr (y.ev fr)) fun b => Option.rec (some (tf neg b.isNone, s)) (fun a => Option.rec (some (tf neg false, s)) (fun b => eqAddr neg s a b) b) a := rfl
theorem st_convI (k : IntKind) (x : Arg) : (oneOp (.convI k x)).run call noRound fr s id = om (asInt (x.ev fr)) fun n => (.int k (wr k n.2), s) := rfl
theorem st_convSB (T : TypeId) (x : Arg) : (oneOp (.convSB T x)).run call noRound fr s id = ob (asStr (x.ev fr)) fun b => must (Nat.ble (lenL b) room) (some (sl id (lenL b), s.set id (.cells (mapL ofByte b) 1 .gr))) := rfl
theorem st_convBS (x : Arg) : (oneOp (.convBS x)).run call noRound fr s id = ob (asSl (x.ev fr)) fun p => ob (s.elems 1 (x.ev fr) p.2.1) fun l => om (optL toByte l) fun l => (strOf l, s) := rfl
theorem st_same (x : Arg) : (oneOp (.same x)).run call noRound fr s id = om (asStr (x.ev fr)) fun _ => (x.ev fr, s) := rfl
theorem st_box (T : TypeId) (x : Arg) : (oneOp (.box T x)).run call noRound fr s id = must (storable (x.ev fr)) (some (ptr id 0, s.set id (.cells (vcells (x.ev fr)) 0 .ex))) := rfl
theorem st_alloc (T : TypeId) (z : List Value) : (oneOp (.alloc T z)).run call noRound fr s id = some (ptr id 0, s.set id (.cells z (tag T 0) .ex)) := rfl
theorem st_build (z : List Value) (ps : List (Nat × Nat × Arg)) : (oneOp (.build z ps)).run call noRound fr s id = om (fillL (evP fr ps) z) fun l => (.agg ⟨l⟩, s) := rfl
theorem st_buildSlice (T : TypeId) (n : Nat) (z : List Value) (ps : List (Nat × Nat × Arg)) : (oneOp (.buildSlice T n z ps)).run call noRound fr s id = om (fillL (evP fr ps) z) fun l => (.slice (some ⟨id, 0, none⟩) n n, s.set id (.cells l 0 .ex)) := rfl
theorem st_load1 (x : Arg) : (oneOp (.load1 x)).run call noRound fr s id = ob (asAddr (x.ev fr)) fun a => om (s.cell a) fun v => (v, s) := rfl
theorem st_loadN (n : Nat) (x : Arg) : (oneOp (.loadN n x)).run call noRound fr s id = ob (asAddr (x.ev fr)) fun a => om (s.row a n) fun l => (.agg ⟨l⟩, s) := rfl
theorem st_store (n : Nat) (a x : Arg) : (oneOp (.store n a x)).run call noRound fr s id = ob (asAddr (a.ev fr)) fun a => must (storable (x.ev fr)) (must (Nat.beq (lenL (vcells (x.ev fr))) n) (om (s.put a (vcells (x.ev fr))) fun s => (undef, s))) := rfl
theorem st_nilCheck (x : Arg) : (oneOp (.nilCheck x)).run call noRound fr s id = must (nilOk (x.ev fr)) (some (x.ev fr, s)) := rfl
theorem st_iface (T : TypeId) (x : Arg) : (oneOp (.iface T x)).run call noRound fr s id = some (.iface T (x.ev fr), s) := rfl
theorem st_mkFunc (f : Fn) (x y : List Arg) : (oneOp (.mkFunc f x y)).run call noRound fr s id = some (.func f ⟨evL fr x⟩ ⟨evL fr y⟩, s) := rfl
theorem st_mkSlice (T : TypeId) (bytes : Nat) (z : List Value) (l c : Arg) : (oneOp (.mkSlice T bytes z l c)).run call noRound fr s id = ob (asNat (l.ev fr)) fun l => ob (asNat (c.ev fr)) fun c => must (Nat.ble l c) (must (Nat.ble (c * bytes) room) (must (Nat.ble c room) (some (.slice (some ⟨id, 0, none⟩) l c, s.set id (.cells (zeros c z) 0 .ex))))) := rfl
theorem st_sliceS (x : Arg) (lo hi : Option Arg) : (oneOp (.sliceS x lo hi)).run call noRound fr s id = ob (asStr (x.ev fr)) fun b => ob (bound (evO fr hi) (lenL b) (lenL b)) fun h => om (bound (evO fr lo) 0 h) fun l => (strOf (takeL (h - l) (dropL l b)), s) := rfl
theorem st_sliceV (size : Nat) (x : Arg) (lo hi mx : Option Arg) : (oneOp (.sliceV size x lo hi mx)).run call noRound fr s id = om (sliceOp s size (x.ev fr) (evO fr lo) (evO fr hi) (evO fr mx)) fun v => (v, s) := rfl
theorem st_faddr (off : Nat) (x : Arg) : (oneOp (.faddr off x)).run call noRound fr s id = om (asAddr (x.ev fr)) fun a => (.pointer (some (a.add off)), s) := rfl
theorem st_iaddrA (n size : Nat) (x i : Arg) : (oneOp (.iaddrA n size x i)).run call noRound fr s id = ob (asAddr (x.ev fr)) fun a => ob (asNat (i.ev fr)) fun i => must (Nat.blt i n) (some (.pointer (some (a.add (i * size))), s)) := rfl
theorem st_iaddrV (size : Nat) (x i : Arg) : (oneOp (.iaddrV size x i)).run call noRound fr s id = ob (asSl (x.ev fr)) fun p => ob p.1 fun a => ob (asNat (i.ev fr)) fun i => must (Nat.blt i p.2.1) (some (.pointer (some (a.add (i * size))), s)) := rfl
theorem st_fieldV (g : Bool) (off n : Nat) (x : Arg) : (oneOp (.fieldV g off n x)).run call noRound fr s id = ob (asAgg (x.ev fr)) fun cs => om (partOf g cs off n) fun v => (v, s) := rfl
theorem st_idxS (x i : Arg) : (oneOp (.idxS x i)).run call noRound fr s id = ob (asStr (x.ev fr)) fun b => ob (asNat (i.ev fr)) fun i => om (nthL b i) fun c => (ofByte c, s) := rfl
theorem st_extract (x : Arg) (i : Nat) : (oneOp (.extract x i)).run call noRound fr s id = ob (asTup (x.ev fr)) fun vs => om (nthL vs i) fun v => (v, s) := rfl
theorem st_lenC (n : Nat) : (oneOp (.lenC n)).run call noRound fr s id = some (num (Int.ofNat n), s) := rfl
theorem st_lenS (x : Arg) : (oneOp (.lenS x)).run call noRound fr s id = om (asStr (x.ev fr)) fun b => (num (Int.ofNat (lenL b)), s) := rfl
theorem st_lenV (x : Arg) : (oneOp (.lenV x)).run call noRound fr s id = om (asSl (x.ev fr)) fun n => (num (Int.ofNat n.2.1), s) := rfl
theorem st_append (T : TypeId) (size bytes : Nat) (x y : Arg) : (oneOp (.append T size bytes x y)).run call noRound fr s id = appendOp (tag T size) size bytes s (x.ev fr) (y.ev fr) := rfl
theorem st_callF (f : FuncId) (xs : List Arg) : (oneOp (.callF f xs)).run call noRound fr s id = call f (evL fr xs) s := rfl
theorem st_callV (f : Arg) (xs : List Arg) : (oneOp (.callV f xs)).run call noRound fr s id = callV call noRound (f.ev fr) (evL fr xs) s := rfl
theorem callV_func (round : Rounder) (g : FuncId) (x y : Array Value) (args : List Value) : callV call round (.func (.func g) x y) args s = call g (appL x.toList (appL args y.toList)) s := rfl
theorem pc_some {E : Env} {f : FuncId} {p : Prim} (h : E.prim f = some p) (args : List Value) (s : St) : pc E f args s = p args s := by
  show ob (E.prim f) _ = _
  rw [h]; rfl
end
theorem skip_zero (s : St) : s.skip 0 = s := rfl
/- Values. -/
theorem asInt_int (k : IntKind) (n : Int) : asInt (.int k n) = some (k, n) := rfl
theorem asStr_strOf (l : List UInt8) : asStr (strOf l) = some l := rfl
theorem asBool_bool (b : Bool) : asBool (.bool b) = some b := rfl
theorem asPtr_pointer (a : Option Addr) : asPtr (.pointer a) = some a := rfl
theorem asAddr_pointer (a : Addr) : asAddr (.pointer (some a)) = some a := rfl
theorem asAddr_ptr (b o : Nat) : asAddr (ptr b o) = some ⟨b, o, none⟩ := rfl
theorem asAgg_agg (l : List Value) : asAgg (.agg ⟨l⟩) = some l := rfl
theorem asTup_tuple (l : List Value) : asTup (.tuple ⟨l⟩) = some l := rfl
theorem asSl_slice (a : Option Addr) (n c : Nat) : asSl (.slice a n c) = some (a, n, c) := rfl
theorem asNat_int (k : IntKind) (n : Nat) : asNat (.int k n) = some n := rfl
theorem tf_false (b : Bool) : tf false b = .bool b := rfl
theorem tf_true (b : Bool) : tf true b = .bool !b := rfl
theorem bin_int {op : BinOp} (h : isShift op = false) (k : IntKind) (a b : Int) : binOp op (.int k a) (.int k b) = (binInt op).run k a b := by
  show ob (some (k, b)) (fun b => cnd (isShift op) ((binShift op).run k a b.2) (must (kEq k b.1) ((binInt op).run k a b.2))) = _
  rw [ob_some, h]
  show must (kEq k k) _ = _
  rw [show kEq k k = true from by rw [kEq_eq]; simp]
  rfl
theorem bin_lss (k : IntKind) (a b : Int) : binOp .lss (.int k a) (.int k b) = some (.bool (decide (a < b))) := by
  rw [bin_int rfl]
  show some (Value.bool (iLt a b)) = _
  unfold iLt
  rw [iLe_eq]
  congr 2
  by_cases h : a < b
  · simp [h]
  · simp [h]; omega
theorem bin_gtr (k : IntKind) (a b : Int) : binOp .gtr (.int k a) (.int k b) = some (.bool (decide (b < a))) := by
  rw [bin_int rfl]
  show some (Value.bool (iLt b a)) = _
  unfold iLt
  rw [iLe_eq]
  congr 2
  by_cases h : b < a
  · simp [h]
  · simp [h]; omega
theorem bin_leq (k : IntKind) (a b : Int) : binOp .leq (.int k a) (.int k b) = some (.bool (decide (a ≤ b))) := by
  rw [bin_int rfl]
  show some (Value.bool (iLe a b)) = _
  rw [iLe_eq]
theorem bin_geq (k : IntKind) (a b : Int) : binOp .geq (.int k a) (.int k b) = some (.bool (decide (b ≤ a))) := by
  rw [bin_int rfl]
  show some (Value.bool (iLe b a)) = _
  rw [iLe_eq]
theorem bin_eqlI (k : IntKind) (a b : Int) : binOp .eql (.int k a) (.int k b) = some (.bool (decide (a = b))) := by
  rw [bin_int rfl]
  show some (Value.bool (iEq a b)) = _
  rw [iEq_eq]
theorem bin_neqI (k : IntKind) (a b : Int) : binOp .neq (.int k a) (.int k b) = some (.bool (!decide (a = b))) := by
  rw [bin_int rfl]
  show some (Value.bool (!iEq a b)) = _
  rw [iEq_eq]
theorem bin_add (k : IntKind) (a b : Int) : binOp .add (.int k a) (.int k b) = some (.int k (wr k (a + b))) := by rw [bin_int rfl]; rfl
theorem bin_sub (k : IntKind) (a b : Int) : binOp .sub (.int k a) (.int k b) = some (.int k (wr k (a - b))) := by rw [bin_int rfl]; rfl
theorem bin_mul (k : IntKind) (a b : Int) : binOp .mul (.int k a) (.int k b) = some (.int k (wr k (a * b))) := by rw [bin_int rfl]; rfl
theorem bin_eqlS (a b : List UInt8) : binOp .eql (strOf a) (strOf b) = some (.bool (decide (a = b))) := by
  show some (Value.bool (bytesEq a b)) = _
  rw [bytesEq_eq]
theorem bin_neqS (a b : List UInt8) : binOp .neq (strOf a) (strOf b) = some (.bool (!decide (a = b))) := by
  show some (Value.bool (!bytesEq a b)) = _
  rw [bytesEq_eq]
theorem bin_addS (a b : List UInt8) (h : a.length + b.length ≤ 9223372036854775807) : binOp .add (strOf a) (strOf b) = some (strOf (a ++ b)) := by
  show must (Nat.ble (a.length + b.length) 9223372036854775807) (some (strOf (a ++ b))) = _
  rw [Nat.ble_eq_true_of_le h]; rfl
theorem un_not (b : Bool) : unOp .not (.bool b) = some (.bool !b) := rfl
theorem wr_i64 {n : Int} (h1 : -9223372036854775808 ≤ n) (h2 : n ≤ 9223372036854775807) : wr .i64 n = n := by
  have : fits .i64 n = true := by
    show Bool.rec false (iLe n 9223372036854775807) (iLe (-9223372036854775808) n) = true
    rw [iLe_eq, iLe_eq, decide_eq_true h1, decide_eq_true h2]
  unfold wr
  rw [this]; rfl
theorem num_int (n : Int) : num n = .int .i64 n := rfl
theorem ofByte_int (c : UInt8) : ofByte c = .int .u8 c.toNat := rfl
theorem ptr_pointer (b o : Nat) : ptr b o = .pointer (some ⟨b, o, none⟩) := rfl
theorem sl_slice (b n : Nat) : sl b n = .slice (some ⟨b, 0, none⟩) n open_ := rfl
end Go.Ev

namespace Go.Ev
theorem add_block (a : Addr) (n : Nat) : (a.add n).block = a.block := by unfold Addr.add; split <;> rfl
theorem add_off (a : Addr) (n : Nat) : (a.add n).off = a.off + n := by
  unfold Addr.add
  split
  · rename_i h; rw [h]; rfl
  · rfl
theorem row_iff {s : St} {a : Addr} {n : Nat} {l : List Value} : s.row a n = some l ↔ ∃ cs es md, s.get a.block = some (.cells cs es md) ∧ a.off + n ≤ cs.length ∧ l = (cs.drop a.off).take n := by
  constructor
  · intro h
    obtain ⟨⟨cs, es, md⟩, h1, h2⟩ := ob_eq.1 h
    obtain ⟨h3, h4⟩ := must_eq.1 h2
    rw [Nat.ble_eq, lenL_eq] at h3
    cases h4
    exact ⟨cs, es, md, asCells_eq h1, h3, by rw [takeL_eq, dropL_eq]⟩
  · rintro ⟨cs, es, md, h1, h2, rfl⟩
    show ob (asCells (s.get a.block)) _ = _
    rw [h1]
    show must (Nat.ble (a.off + n) (lenL cs)) (some (takeL n (dropL a.off cs))) = _
    rw [lenL_eq, Nat.ble_eq_true_of_le h2, takeL_eq, dropL_eq]; rfl
theorem cell_row {s : St} {a : Addr} {n : Nat} {l : List Value} (h : s.row a n = some l) {i : Nat} (hi : i < n) : s.cell (a.add i) = l[i]? := by
  obtain ⟨cs, es, md, h1, h2, rfl⟩ := row_iff.1 h
  unfold St.cell
  rw [add_block, add_off, h1]
  show nthL cs (a.off + i) = _
  rw [nthL_eq, List.getElem?_take_of_lt hi, List.getElem?_drop]
theorem elems_some {s : St} {a : Addr} {k c n size : Nat} : s.elems size (.slice (some a) k c) n = s.row a (n * size) := rfl
end Go.Ev

namespace Go.Ev
noncomputable section
def CCode.fst (c : CCode) : CCode := match c with | .seq a _ => a | _ => .no
def CCode.snd (c : CCode) : CCode := match c with | .seq _ b => b | _ => .no
def CCode.yes (c : CCode) : CCode := match c with | .cond _ a _ => a | _ => .no
def CCode.not (c : CCode) : CCode := match c with | .cond _ _ b => b | _ => .no
def CCode.test (c : CCode) : Arg := match c with | .cond c _ _ => c | _ => .c undef
theorem Ext.ofBelow {S : Nat → Prop} {ι : Inj} {base : Nat} {s : St} {w w' : World} (r : Rel ι base s w) (b : Go.RowKit.Below w.heap.size w w') : Ext S ι base s w ι s w' := by
  refine ⟨Inj.le_refl _, ⟨?_, r.sep, r.own, r.next, fun a B h => Nat.lt_of_lt_of_le (r.blk a B h) b.size, Nat.le_trans r.base_le b.size⟩, Nat.le_refl _, fun _ _ _ h1 => ⟨h1, id⟩, fun k hk _ => b.block k hk, fun a o B h1 h2 h3 _ => ⟨a, o, B, h1, h2, id, h3, rfl⟩, b.size, b.os, b.tape, b.output⟩
  intro a o h hl
  obtain ⟨B, h1, h2⟩ := r.ob a o h hl
  exact ⟨B, h1, h2.block (b.block _ (r.blk a B h1))⟩
end
end Go.Ev

namespace Go.Ev
noncomputable section
def Wo (E : Env) (b : Nat) (ops : List COper) (fr : Fr) (s : St) (Q : Fr → St → Prop) : Prop := ∃ n fr' s', runOps (one1 (callF E (runC E n))) noRound b ops fr s = some (fr', s') ∧ Q fr' s'
structure Has (E : Env) (f : FuncId) (c : CFunc) : Prop where
  code : E.code f = some c
  prim : E.prim f = none
section
variable {E : Env} {fr fr' : Fr} {s s' : St} {b : Nat} {Q : Fr → St → Prop}
theorem runOps_append {call : Caller} {rd : Rounder} (b : Nat) : ∀ (l m : List COper) (fr : Fr) (s : St), runOps call rd b (l ++ m) fr s = ob (runOps call rd b l fr s) fun x => runOps call rd b m x.1 x.2
  | [], m, fr, s => rfl
  | o :: l, m, fr, s => by
    have ih : runOps call rd b (l ++ m) = fun fr s => ob (runOps call rd b l fr s) fun x => runOps call rd b m x.1 x.2 := by
      funext fr s; exact runOps_append b l m fr s
    show stepOp call rd b o (runOps call rd b (l ++ m)) fr s = ob (stepOp call rd b o (runOps call rd b l) fr s) _
    rw [ih]
    have hd : ∀ fr s, doOp call rd b o (fun fr s => ob (runOps call rd b l fr s) fun x => runOps call rd b m x.1 x.2) fr s = ob (doOp call rd b o (runOps call rd b l) fr s) fun x => runOps call rd b m x.1 x.2 := by
      intro fr s
      unfold doOp
      cases (oneOp o.op).run call rd fr s (b + o.ix) with
      | none => rfl
      | some r =>
        show (List.rec _ _ o.again : RF) = ob (List.rec _ _ o.again : RF) _
        cases o.again with
        | nil => rfl
        | cons y ag =>
          show must _ _ = ob (must _ _) _
          cases againOk fr r.2 (y :: ag) <;> rfl
    unfold stepOp
    cases o.guard with
    | none => exact hd fr s
    | some g =>
      show (Bool.rec _ _ (wanted g fr) : RF) = ob (Bool.rec _ _ (wanted g fr) : RF) _
      cases wanted g fr
      · rfl
      · exact hd fr s
theorem Wo.mono {ops : List COper} {Q' : Fr → St → Prop} (h : Wo E b ops fr s Q) (k : ∀ fr s, Q fr s → Q' fr s) : Wo E b ops fr s Q' :=
  let ⟨n, f, s, h1, h2⟩ := h; ⟨n, f, s, h1, k _ _ h2⟩
theorem Cv.mono {f : FuncId} {args : List Value} {Q Q' : Value → St → Prop} (h : Cv E f args s Q) (k : ∀ v s, Q v s → Q' v s) : Cv E f args s Q' :=
  let ⟨n, v, s, h1, h2⟩ := h; ⟨n, v, s, h1, k _ _ h2⟩
theorem W_ops {news : Nat} {ops : List COper} {Q : Ex → Fr → St → Prop} (h : Wo E s.next ops fr (s.skip news) fun fr s => Q .normal fr s) : W E (.region news ops) fr s Q := by
  obtain ⟨n, f1, s1, h1, h2⟩ := h
  refine ⟨n + 1, .normal, f1, s1, ?_, h2⟩
  show om (runOps (one1 (callF E (runC E n))) noRound s.next ops fr (s.skip news)) (fun r => [(Ex.normal, r.1, r.2)]) = _
  rw [h1]; rfl
theorem W_opsM {news : Nat} {ops : List COper} {Q : Ex → Fr → St → Prop} (h : Wo E s.next ops fr (s.skip news) fun fr s => Q .normal fr s) : W E (.many news ops) fr s Q := by
  obtain ⟨n, f1, s1, h1, h2⟩ := h
  refine ⟨n + 1, .normal, f1, s1, ?_, h2⟩
  show om (runOpsL (callF E (runC E n)) (roundF (runC E n) E.res) s.next ops fr (s.skip news)) (fun l => mapL (fun r => (Ex.normal, r.1, r.2)) l) = _
  rw [runOpsL_one _ _ _ _ _ h1]; rfl
theorem Wo_nil (h : Q fr s) : Wo E b [] fr s Q := ⟨0, fr, s, rfl, h⟩
theorem Wo_all {ops : List COper} (h : runOps (pc E) noRound b ops fr s = some (fr', s')) (hq : Q fr' s') : Wo E b ops fr s Q :=
  ⟨0, _, _, runOps_mono (pc_le _) _ _ _ _ _ h, hq⟩
theorem Wo_run {l m : List COper} (h : runOps (pc E) noRound b l fr s = some (fr', s')) (k : Wo E b m fr' s' Q) : Wo E b (l ++ m) fr s Q := by
  obtain ⟨n, f1, s1, h1, h2⟩ := k
  refine ⟨n, f1, s1, ?_, h2⟩
  rw [runOps_append, runOps_mono (pc_le _) _ _ _ _ _ h]
  exact h1
theorem callC_run {f : FuncId} {args : List Value} {n m : Nat} (h : n ≤ m) {r : List (Value × St)} (k : callC E (runC E n) f args s = some r) : callC E (runC E m) f args s = some r :=
  callC_mono (runC_mono h) _ _ _ _ k
theorem Wo_call {d : Option Nat} {f : FuncId} {xs : List Arg} {ix : Nat} {ops : List COper} {args : List Value} (hp : E.prim f = none) (ha : evL fr xs = args)
    (h : Cv E f args s fun v s' => Wo E b ops (putD fr d v) s' Q) : Wo E b (⟨d, .callF f xs, none, ix, []⟩ :: ops) fr s Q := by
  obtain ⟨n, v, s1, h1, m, f2, s2, h2, h3⟩ := h
  refine ⟨max n m, f2, s2, ?_, h3⟩
  rw [ops_plain, st_callF, ha]
  have e : one1 (callF E (runC E (max n m))) f args s = some (v, s1) := by
    unfold one1 callF
    rw [hp]
    show oneL (callC E (runC E (max n m)) f args s) = _
    rw [callC_run (Nat.le_max_left n m) h1]; rfl
  rw [e, ob_some]
  exact runOps_mono (one1_mono fun f a s => callF_mono (runC_mono (Nat.le_max_right n m)) f a s) _ _ _ _ _ h2
theorem Wo_callV {d : Option Nat} {f : FuncId} {g : Arg} {x y : List Value} {xs : List Arg} {ix : Nat} {ops : List COper} {args : List Value} (hp : E.prim f = none) (hg : g.ev fr = .func (.func f) ⟨x⟩ ⟨y⟩) (ha : appL x (appL (evL fr xs) y) = args)
    (h : Cv E f args s fun v s' => Wo E b ops (putD fr d v) s' Q) : Wo E b (⟨d, .callV g xs, none, ix, []⟩ :: ops) fr s Q := by
  obtain ⟨n, v, s1, h1, m, f2, s2, h2, h3⟩ := h
  refine ⟨max n m, f2, s2, ?_, h3⟩
  rw [ops_plain, st_callV, hg, callV_func]
  rw [show appL (Array.mk x).toList (appL (evL fr xs) (Array.mk y).toList) = args from ha]
  have e : one1 (callF E (runC E (max n m))) f args s = some (v, s1) := by
    unfold one1 callF
    rw [hp]
    show oneL (callC E (runC E (max n m)) f args s) = _
    rw [callC_run (Nat.le_max_left n m) h1]; rfl
  rw [e, ob_some]
  exact runOps_mono (one1_mono fun f a s => callF_mono (runC_mono (Nat.le_max_right n m)) f a s) _ _ _ _ _ h2
theorem Wo_guard {d : Option Nat} {op : Cop} {t : Option Nat} {x y : Bool} {ix : Nat} {ops : List COper} (hw : wanted (t, x) fr = y)
    (h : if y = true then Wo E b (⟨d, op, none, ix, []⟩ :: ops) fr s Q else Wo E b ops (putD fr d undef) s Q) : Wo E b (⟨d, op, some (t, x), ix, []⟩ :: ops) fr s Q := by
  cases y with
  | true =>
    rw [if_pos rfl] at h
    obtain ⟨n, f1, s1, h1, h2⟩ := h
    refine ⟨n, f1, s1, ?_, h2⟩
    rw [ops_guard, if_pos hw, ← ops_plain]
    exact h1
  | false =>
    rw [if_neg (by simp)] at h
    obtain ⟨n, f1, s1, h1, h2⟩ := h
    refine ⟨n, f1, s1, ?_, h2⟩
    rw [ops_guard, if_neg (by simp [hw])]
    exact h1
end
section
variable {E : Env} {fr : Fr} {s : St} {Q : Ex → Fr → St → Prop}
theorem W_if {c : Arg} {x y : CCode} {p : Prop} [Decidable p] (hc : c.ev fr = .bool (decide p)) (h1 : p → W E x fr s Q) (h2 : ¬ p → W E y fr s Q) : W E (.cond c x y) fr s Q := by
  by_cases h : p
  · exact W_cond (x := true) (by rw [hc, decide_eq_true h]) (h1 h)
  · exact W_cond (x := false) (by rw [hc, decide_eq_false h]) (h2 h)
theorem W_ifb {c : Arg} {x y : CCode} {q : Bool} (hc : c.ev fr = .bool q) (h1 : q = true → W E x fr s Q) (h2 : q = false → W E y fr s Q) : W E (.cond c x y) fr s Q := by
  cases q with
  | true => exact W_cond hc (h1 rfl)
  | false => exact W_cond hc (h2 rfl)
theorem W_then {c : Arg} {x y : CCode} (hc : c.ev fr = .bool true) (h : W E x fr s Q) : W E (.cond c x y) fr s Q := W_cond hc (by rw [if_pos rfl]; exact h)
theorem W_else {c : Arg} {x y : CCode} (hc : c.ev fr = .bool false) (h : W E y fr s Q) : W E (.cond c x y) fr s Q := W_cond hc (by rw [if_neg (by simp)]; exact h)
theorem W_for {ti tn tc tx : Nat} {bid b2 : Nat} {body : CCode} {n : Nat} (J : Nat → Fr → St → Prop) (hmax : n < 9223372036854775807)
    (hd : tc ≠ ti ∧ tc ≠ tn ∧ tx ≠ ti ∧ tx ≠ tn ∧ ti ≠ tn)
    (hset : ∀ i fr s t v, t = tc ∨ t = tx ∨ t = ti → J i fr s → J i (fr.set t v) s)
    (hbody : ∀ i fr s, i < n → J i fr s → fr.get ti = some (.int .i64 (i : Nat)) → fr.get tn = some (.int .i64 (n : Nat)) →
      W E body fr s fun e fr s => match e with
        | .normal => J (i + 1) fr s ∧ fr.get ti = some (.int .i64 (i : Nat)) ∧ fr.get tn = some (.int .i64 (n : Nat))
        | .exit j => if j = b2 then J (i + 1) fr s ∧ fr.get ti = some (.int .i64 (i : Nat)) ∧ fr.get tn = some (.int .i64 (n : Nat)) else Q (.exit j) fr s
        | .ret => Q .ret fr s)
    (hend : ∀ fr s, J n fr s → Q (.exit bid) fr s)
    (i : Nat) (hi : i ≤ n) (hJ : J i fr s) (hti : fr.get ti = some (.int .i64 (i : Nat))) (htn : fr.get tn = some (.int .i64 (n : Nat))) :
    W E (.loop (.seq (.region 0 [⟨some tc, .bin .lss (.t ti) (.t tn), none, 0, []⟩]) (.seq (.cond (.t tc) .skip (.exit bid)) (.seq (.block b2 body)
      (.region 0 [⟨some tx, .bin .add (.t ti) (.c (.int .i64 1)), none, 0, []⟩, ⟨some ti, .mov (.t tx), none, 1, []⟩]))))) fr s Q := by
  obtain ⟨d1, d2, d3, d4, d5⟩ := hd
  refine W_inv (fun m fr s => ∃ i, m = n - i ∧ i ≤ n ∧ J i fr s ∧ fr.get ti = some (.int .i64 (i : Nat)) ∧ fr.get tn = some (.int .i64 (n : Nat))) ?_ (n - i) fr s ⟨i, rfl, hi, hJ, hti, htn⟩
  rintro m fr s ⟨i, rfl, hi, hJ, hti, htn⟩
  refine W_seq (W_region (fr' := fr.set tc (.bool (decide ((i : Int) < (n : Int))))) (s' := s) (by simp only [skip_zero, ops_plain, ops_nil, ev_t, hti, htn, orUndef_some, st_bin, bin_lss, om_some, ob_some, putD_some]) ?_)
  refine W_seq (W_if (p := (i : Int) < (n : Int)) (by rw [ev_t, Tr.get_set_same]; rfl) (fun h => W_skip ?_) (fun h => W_exit ?_))
  · have hlt : i < n := by omega
    have k := hbody i (fr.set tc (.bool (decide ((i : Int) < (n : Int))))) s hlt (hset _ _ _ _ _ (.inl rfl) hJ) (by rw [Tr.get_set, if_neg d1]; exact hti) (by rw [Tr.get_set, if_neg d2]; exact htn)
    have fin : ∀ fr s, J (i + 1) fr s ∧ fr.get ti = some (.int .i64 (i : Nat)) ∧ fr.get tn = some (.int .i64 (n : Nat)) →
        W E (.region 0 [⟨some tx, .bin .add (.t ti) (.c (.int .i64 1)), none, 0, []⟩, ⟨some ti, .mov (.t tx), none, 1, []⟩]) fr s fun e fr s => Ex.casesOn e (∃ m, m < n - i ∧ ∃ i, m = n - i ∧ i ≤ n ∧ J i fr s ∧ fr.get ti = some (.int .i64 (i : Nat)) ∧ fr.get tn = some (.int .i64 (n : Nat))) (fun i => Q (.exit i) fr s) (Q .ret fr s) := by
      rintro fr s ⟨h1, h2, h3⟩
      have e : wr .i64 ((i : Int) + 1) = ((i + 1 : Nat) : Int) := by rw [wr_i64 (by omega) (by omega)]; omega
      refine W_region (fr' := (fr.set tx (.int .i64 ((i + 1 : Nat) : Int))).set ti (.int .i64 ((i + 1 : Nat) : Int))) (s' := s) (by simp only [skip_zero, ops_plain, ops_nil, ev_t, ev_c, h2, orUndef_some, st_bin, st_mov, bin_add, om_some, ob_some, putD_some, e, Tr.get_set, if_true]) ?_
      refine ⟨n - (i + 1), by omega, i + 1, rfl, by omega, hset _ _ _ _ _ (.inr (.inr rfl)) (hset _ _ _ _ _ (.inr (.inl rfl)) h1), by rw [Tr.get_set_same], ?_⟩
      rw [Tr.get_set, if_neg d5, Tr.get_set, if_neg d4]; exact h3
    refine W_seq (W_block (k.mono fun e fr s he => ?_))
    cases e with
    | normal => exact fin fr s he
    | ret => exact he
    | exit j =>
      simp only at he
      show Ex.casesOn (motive := fun _ => Prop) (cnd (Nat.beq b2 j) (Ex.normal, fr, s) (Ex.exit j, fr, s)).1 _ _ _
      split at he
      · rename_i hj
        subst hj
        rw [show Nat.beq j j = true from Nat.beq_refl j]
        exact fin fr s he
      · rename_i hj
        rw [show Nat.beq b2 j = false from by
          cases hb : Nat.beq b2 j with
          | false => rfl
          | true => rw [Nat.beq_eq] at hb; exact absurd hb.symm hj]
        exact he
  · have : i = n := by omega
    subst this
    exact hend _ _ (hset _ _ _ _ _ (.inl rfl) hJ)
end
theorem Cv.says {E : Env} {f : FuncId} {args : List Value} {s : St} (h : Cv E f args s fun v _ => v = .bool true) : ∃ n, saysTrue (callC E (runC E n) f args s) = true := by
  obtain ⟨n, v, s', h1, rfl⟩ := h
  exact ⟨n, by rw [h1]; rfl⟩
/- Guards. -/
def wantB (x : Bool) (o : Option Value) : Bool := Option.rec false (fun b => Bool.rec (!b) b x) (ob o asBool)
theorem wanted_some (t : Nat) (x : Bool) (fr : Fr) : wanted (some t, x) fr = wantB x (fr.get t) := rfl
theorem wantB_tt : wantB true (some (.bool true)) = true := rfl
theorem wantB_tf : wantB true (some (.bool false)) = false := rfl
theorem wantB_ft : wantB false (some (.bool true)) = false := rfl
theorem wantB_ff : wantB false (some (.bool false)) = true := rfl
theorem ops_guard_t {call : Caller} {b : Nat} {fr : Fr} {s : St} {d : Option Nat} {op : Cop} {t : Option Nat} {x : Bool} {ix : Nat} {ops : List COper} (h : wanted (t, x) fr = true) :
    runOps call noRound b (⟨d, op, some (t, x), ix, []⟩ :: ops) fr s = ob ((oneOp op).run call noRound fr s (b + ix)) fun r => runOps call noRound b ops (putD fr d r.1) r.2 := by rw [ops_guard, if_pos h]
theorem ops_guard_f {call : Caller} {b : Nat} {fr : Fr} {s : St} {d : Option Nat} {op : Cop} {t : Option Nat} {x : Bool} {ix : Nat} {ops : List COper} (h : wanted (t, x) fr = false) :
    runOps call noRound b (⟨d, op, some (t, x), ix, []⟩ :: ops) fr s = runOps call noRound b ops (putD fr d undef) s := by rw [ops_guard, if_neg (by rw [h]; exact Bool.false_ne_true)]
section
variable {call : Caller} {fr : Fr} {s : St} {id : Nat}
theorem st_capV (x : Arg) : (oneOp (.capV x)).run call noRound fr s id = ob (asSl (x.ev fr)) fun p => must (!Nat.beq p.2.2 open_) (some (num (Int.ofNat p.2.2), s)) := rfl
theorem st_appendZ (T : TypeId) (size bytes : Nat) (z : List Value) (x n : Arg) : (oneOp (.appendZ T size bytes z x n)).run call noRound fr s id = cAppendZ (tag T size) size bytes z x n fr s id := rfl
theorem st_eqPtrNil (neg : Bool) (x : Arg) : (oneOp (.eqPtr neg x (.c (.pointer none)))).run call noRound fr s id = om (asPtr (x.ev fr)) fun a => (tf neg a.isNone, s) := by
  rw [st_eqPtr]
  cases asPtr (x.ev fr) with
  | none => rfl
  | some a => cases a <;> rfl
end
theorem asStr_string (b : ByteArray) : asStr (.string b) = some b.data.toList := rfl
theorem add_eq (b o n : Nat) : (⟨b, o, none⟩ : Addr).add n = ⟨b, o + n, none⟩ := by
  unfold Addr.add
  split
  · rename_i h; rw [h]; rfl
  · rfl
/- Results. -/
theorem res_nil {fr : Fr} {s : St} : optL (oneRes fr s) [] = some [] := rfl
theorem res_tmp {fr : Fr} {s : St} {t : Nat} {l : List CRes} {r : List Value} (h : optL (oneRes fr s) l = some r) : optL (oneRes fr s) (.tmp t :: l) = some (orUndef (fr.get t) :: r) := by
  rw [optL_cons]
  show ob (some (orUndef (fr.get t))) _ = _
  rw [ob_some, h]; rfl
def Keeps (s s' : St) : Prop := s.next ≤ s'.next ∧ ∀ a, a < s.next → s'.get a = s.get a
theorem Keeps.refl (s : St) : Keeps s s := ⟨Nat.le_refl _, fun _ _ => rfl⟩
theorem Keeps.trans {s t u : St} (h : Keeps s t) (k : Keeps t u) : Keeps s u := ⟨Nat.le_trans h.1 k.1, fun a ha => (k.2 a (Nat.lt_of_lt_of_le ha h.1)).trans (h.2 a ha)⟩
end
end Go.Ev

namespace Go.Ev
noncomputable section
def Low (lo : Nat) (s s' : St) : Prop := lo ≤ s.next ∧ s.next ≤ s'.next ∧ ∀ a, a < lo → s'.get a = s.get a
section
variable {lo lo' : Nat} {s t u : St}
theorem Low.refl (h : lo ≤ s.next) : Low lo s s := ⟨h, Nat.le_refl _, fun _ _ => rfl⟩
theorem Low.self (s : St) : Low s.next s s := .refl (Nat.le_refl _)
theorem Low.trans (h : Low lo s t) (k : Low lo t u) : Low lo s u := ⟨h.1, Nat.le_trans h.2.1 k.2.1, fun a ha => (k.2.2 a ha).trans (h.2.2 a ha)⟩
theorem Low.weak (h : Low lo s t) (hl : lo' ≤ lo) : Low lo' s t := ⟨Nat.le_trans hl h.1, h.2.1, fun a ha => h.2.2 a (Nat.lt_of_lt_of_le ha hl)⟩
theorem Low.le (h : Low lo s t) : lo ≤ t.next := Nat.le_trans h.1 h.2.1
theorem Low.skip (h : Low lo s t) (n : Nat) : Low lo s (t.skip n) := ⟨h.1, by rw [St.skip_eq]; exact Nat.le_trans h.2.1 (Nat.le_add_right _ _), fun a ha => by rw [St.skip_eq]; exact h.2.2 a ha⟩
theorem Low.bump (h : Low lo s t) (n : Nat) : Low lo s (t.bump n) := ⟨h.1, Nat.le_trans h.2.1 (Nat.le_add_right _ _), fun a ha => h.2.2 a ha⟩
theorem Low.set (h : Low lo s t) {a : Nat} (ha : lo ≤ a) (o : Ob) : Low lo s (t.set a o) := ⟨h.1, h.2.1, fun b hb => by rw [St.get_set_ne _ _ (by omega)]; exact h.2.2 b hb⟩
theorem Low.made (h : Low lo s t) (cs : List Value) (es : Nat) (md : Md) : Low lo s (t.made cs es md) := (h.set h.le _).bump 1
theorem next_skip (s : St) (n : Nat) : (s.skip n).next = s.next + n := by rw [St.skip_eq]; rfl
theorem get_skip (s : St) (n a : Nat) : (s.skip n).get a = s.get a := by rw [St.skip_eq]; rfl
theorem cell_skip (s : St) (n : Nat) (a : Addr) : (s.skip n).cell a = s.cell a := by rw [St.skip_eq]; rfl
theorem row_skip (s : St) (n : Nat) (a : Addr) (k : Nat) : (s.skip n).row a k = s.row a k := by rw [St.skip_eq]; rfl
theorem next_made (s : St) (cs : List Value) (es : Nat) (md : Md) : (s.made cs es md).next = s.next + 1 := rfl
theorem get_made (s : St) (cs : List Value) (es : Nat) (md : Md) (a : Nat) : (s.made cs es md).get a = if s.next = a then some (.cells cs es md) else s.get a := St.get_set s s.next a _
end
inductive Sl (s : St) (hi size : Nat) : Value → List Value → Prop
  | nil : Sl s hi size (.slice none 0 0) []
  | mk {b o n c : Nat} {cells : List Value} {es : Nat} {md : Md} (hb : b < hi) (hg : s.get b = some (.cells cells es md)) (hl : o + n * size ≤ cells.length)
    (hc : (n ≤ c ∧ c < open_) ∨ (c = open_ ∧ md.grows = true ∧ esz es = size)) : Sl s hi size (.slice (some ⟨b, o, none⟩) n c) ((cells.drop o).take (n * size))
inductive Gr (s : St) (lo size : Nat) : Value → List Value → Prop
  | nil : Gr s lo size (.slice none 0 0) []
  | mk {b n : Nat} {cs : List Value} {es : Nat} (hlo : lo ≤ b) (hb : b < s.next) (hg : s.get b = some (.cells cs es .gr)) (he : esz es = size) (hn : cs.length = n * size) : Gr s lo size (sl b n) cs
  | ex {b o n : Nat} {cells : List Value} {es : Nat} {md : Md} (hlo : lo ≤ b) (hb : b < s.next) (hg : s.get b = some (.cells cells es md)) (hl : o + n * size ≤ cells.length) (hn : n < open_) : Gr s lo size (.slice (some ⟨b, o, none⟩) n n) ((cells.drop o).take (n * size))
section
variable {lo hi size : Nat} {s t : St} {v : Value} {cs : List Value}
theorem Sl.low (h : Sl s hi size v cs) (k : Low lo s t) (hh : hi ≤ lo) : Sl t hi size v cs := by
  cases h with
  | nil => exact .nil
  | mk hb hg hl hc => exact .mk hb (by rw [k.2.2 _ (by omega)]; exact hg) hl hc
theorem Sl.wide {hi' : Nat} (h : Sl s hi size v cs) (hh : hi ≤ hi') : Sl s hi' size v cs := by
  cases h with
  | nil => exact .nil
  | mk hb hg hl hc => exact .mk (Nat.lt_of_lt_of_le hb hh) hg hl hc
theorem Gr.sl (h : Gr s lo size v cs) : Sl s s.next size v cs := by
  cases h with
  | nil => exact .nil
  | mk hlo hb hg he hn =>
    rename_i b n es
    have := Sl.mk (s := s) (size := size) (o := 0) (n := n) (c := open_) hb hg (by omega) (.inr ⟨rfl, rfl, he⟩)
    rw [List.drop_zero, ← hn, List.take_length] at this
    exact this
  | ex hlo hb hg hl hn => exact .mk hb hg hl (.inl ⟨Nat.le_refl _, hn⟩)
theorem Gr.low {lo' : Nat} (h : Gr s lo size v cs) (k : Low lo' s t) (hh : s.next ≤ lo') : Gr t lo size v cs := by
  cases h with
  | nil => exact .nil
  | mk hlo hb hg he hn => exact .mk hlo (Nat.lt_of_lt_of_le hb k.2.1) (by rw [k.2.2 _ (by omega)]; exact hg) he hn
  | ex hlo hb hg hl hn => exact .ex hlo (Nat.lt_of_lt_of_le hb k.2.1) (by rw [k.2.2 _ (by omega)]; exact hg) hl hn
theorem Gr.weak {lo' : Nat} (h : Gr s lo size v cs) (hl : lo' ≤ lo) : Gr s lo' size v cs := by
  cases h with
  | nil => exact .nil
  | mk hlo hb hg he hn => exact .mk (Nat.le_trans hl hlo) hb hg he hn
  | ex hlo hb hg hl' hn => exact .ex (Nat.le_trans hl hlo) hb hg hl' hn
theorem Sl.parts (h : Sl s hi size v cs) : ∃ p n c, v = .slice p n c ∧ cs.length = n * size := by
  cases h with
  | nil => exact ⟨none, 0, 0, rfl, by simp⟩
  | mk hb hg hl hc => exact ⟨_, _, _, rfl, by simp; omega⟩
theorem Sl.elems {p : Option Addr} {n c : Nat} (h : Sl s hi size (.slice p n c) cs) : s.elems size (.slice p n c) n = some cs := by
  cases h with
  | nil => rfl
  | mk hb hg hl hc => 
    rename_i b o cells es md
    exact row_iff.2 ⟨cells, es, md, hg, hl, rfl⟩
theorem Sl.cell {p : Option Addr} {n c : Nat} (h : Sl s hi size (.slice p n c) cs) {i : Nat} (hi : i < cs.length) : ∃ a, p = some a ∧ s.cell (a.add i) = cs[i]? := by
  cases h with
  | nil => simp at hi
  | mk hb hg hl hc =>
    refine ⟨_, rfl, ?_⟩
    rename_i b o cells es md
    have hr := (row_iff (s := s) (a := ⟨b, o, none⟩) (n := n * size)).2 ⟨cells, es, md, hg, hl, rfl⟩
    exact cell_row hr (by simp at hi; omega)
theorem Sl.row {p : Option Addr} {n c : Nat} (h : Sl s hi size (.slice p n c) cs) {i k : Nat} (hi : i + k ≤ cs.length) (hk : 0 < k) : ∃ a, p = some a ∧ s.row (a.add i) k = some ((cs.drop i).take k) := by
  cases h with
  | nil => simp at hi; omega
  | mk hb hg hl hc =>
    refine ⟨_, rfl, row_iff.2 ⟨_, _, _, by rw [add_block]; exact hg, ?_, ?_⟩⟩
    · rw [add_off]; simp at hi ⊢; omega
    · rw [add_off, List.drop_take, List.drop_drop, List.take_take]
      congr 1
      simp at hi; omega
theorem bound_num {n most d : Nat} (h : n ≤ most) : bound (some (.int .i64 (n : Nat))) d most = some n := by
  show must (Nat.ble n most) (some n) = some n
  rw [Nat.ble_eq_true_of_le h]; rfl
theorem Sl.slice {p : Option Addr} {n c : Nat} (h : Sl s hi size (.slice p n c) cs) (hz : 0 < size) {l k : Nat} (hl : l ≤ k) (hk : k ≤ n) :
    ∃ v, sliceOp s size (.slice p n c) (some (.int .i64 (l : Nat))) (some (.int .i64 (k : Nat))) none = some v ∧ Sl s hi size v ((cs.drop (l * size)).take ((k - l) * size)) := by
  have e3 : bound (some (.int .i64 (l : Nat))) 0 k = some l := bound_num hl
  have hbeq : ∀ {a b : Nat}, a ≠ b → Nat.beq a b = false := fun {a b} h => by
    cases e : Nat.beq a b with
    | false => rfl
    | true => rw [Nat.beq_eq] at e; exact absurd e h
  cases h with
  | nil =>
    have hk0 : k = 0 := by omega
    have hl0 : l = 0 := by omega
    subst hk0; subst hl0
    refine ⟨.slice none 0 0, rfl, ?_⟩
    simp only [List.drop_nil, List.take_nil]
    exact .nil
  | mk hb hg hl' hc =>
    rename_i b o cells es md
    have hkl : (k - l) * size + l * size ≤ n * size := by rw [← Nat.add_mul]; exact Nat.mul_le_mul_right _ (by omega)
    have e5 : (((cells.drop o).take (n * size)).drop (l * size)).take ((k - l) * size) = (cells.drop (o + l * size)).take ((k - l) * size) := by
      rw [List.drop_take, List.drop_drop, List.take_take, Nat.min_eq_left (by omega)]
    have e4 : (⟨b, o, none⟩ : Addr).add (l * size) = ⟨b, o + l * size, none⟩ := by
      unfold Addr.add
      split
      · rename_i h0; simp [h0]
      · rfl
    rw [e5]
    rcases hc with ⟨hcap, hc⟩ | ⟨rfl, hgr, hes⟩
    · have e1 : bound none c c = some c := rfl
      have e2 : bound (some (.int .i64 (k : Nat))) n c = some k := bound_num (by omega)
      have e : sliceOp s size (.slice (some ⟨b, o, none⟩) n c) (some (.int .i64 (l : Nat))) (some (.int .i64 (k : Nat))) none = some (.slice (cnd (Nat.beq c l) (some ⟨b, o, none⟩) (addO (some ⟨b, o, none⟩) (l * size))) (k - l) (c - l)) := by
        show cnd (Nat.beq c open_) _ (sliceExact size (some ⟨b, o, none⟩) n c _ _ _) = _
        rw [hbeq (by omega), cnd_false]
        show ob (bound none c c) (fun m => ob (bound (some (.int .i64 (k : Nat))) n m) fun h => om (bound (some (.int .i64 (l : Nat))) 0 h) fun l => Value.slice (cnd (Nat.beq m l) (some ⟨b, o, none⟩) (addO (some ⟨b, o, none⟩) (l * size))) (h - l) (m - l)) = _
        rw [e1, ob_some, e2, ob_some, e3, om_some]
      refine ⟨_, e, ?_⟩
      cases hb' : Nat.beq c l with
      | true =>
        rw [Nat.beq_eq] at hb'
        have hkl : k = l := by omega
        subst hkl
        rw [cnd_true]
        have := Sl.mk (s := s) (size := size) (o := o) (n := 0) (c := c - k) hb hg (by omega) (.inl ⟨by omega, by omega⟩)
        simpa using this
      | false =>
        rw [cnd_false]
        show Sl s hi size (.slice (some (Addr.add _ _)) _ _) _
        rw [e4]
        exact .mk hb hg (by omega) (.inl ⟨by omega, by omega⟩)
    · have hdiv : k ≤ (cells.length - o) / size := by
        rw [Nat.le_div_iff_mul_le hz]
        have := Nat.mul_le_mul_right size hk
        omega
      have e2 : bound (some (.int .i64 (k : Nat))) n ((cells.length - o) / size) = some k := bound_num hdiv
      have hkn : s.known size ⟨b, o, none⟩ = some ((cells.length - o) / size) := by
        show ob (asCells (s.get b)) _ = _
        rw [hg]
        show must (Nat.beq (esz es) size) (must md.grows (some ((lenL cells - o) / size))) = _
        rw [hes, Nat.beq_refl, hgr, lenL_eq]; rfl
      have e : sliceOp s size (.slice (some ⟨b, o, none⟩) n open_) (some (.int .i64 (l : Nat))) (some (.int .i64 (k : Nat))) none = some (.slice (some ((⟨b, o, none⟩ : Addr).add (l * size))) (k - l) open_) := by
        show cnd (Nat.beq open_ open_) (sliceOpen s size (some ⟨b, o, none⟩) n (some (.int .i64 (l : Nat))) (some (.int .i64 (k : Nat))) none) (sliceExact size (some ⟨b, o, none⟩) n open_ (some (.int .i64 (l : Nat))) (some (.int .i64 (k : Nat))) none) = _
        rw [Nat.beq_refl, cnd_true]
        show ob (some (⟨b, o, none⟩ : Addr)) (fun a => ob (s.known size a) fun k' => ob (bound none k' k') fun m => ob (bound (some (.int .i64 (k : Nat))) n m) fun h => ob (bound (some (.int .i64 (l : Nat))) 0 h) fun l => some (Value.slice (some (a.add (l * size))) (h - l) open_)) = _
        rw [ob_some, hkn, ob_some]
        show ob (bound (some (.int .i64 (k : Nat))) n ((cells.length - o) / size)) (fun h => ob (bound (some (.int .i64 (l : Nat))) 0 h) fun l => some (Value.slice (some ((⟨b, o, none⟩ : Addr).add (l * size))) (h - l) open_)) = _
        rw [e2, ob_some, e3, ob_some]
      refine ⟨_, e, ?_⟩
      rw [e4]
      exact .mk hb hg (by omega) (.inr ⟨rfl, hgr, hes⟩)
end
theorem append_gr {lo size bytes tg : Nat} {s : St} {v : Value} {cs : List Value} {y : Value} {n : Nat} {new : List Value} (hz : 0 < size) (htg : esz tg = size) (h : Gr s lo size v cs) (hlo : lo ≤ s.next)
    (hn : lenOf y = some n) (hy : s.elems size y n = some new) (hnl : new.length = n * size) (hroom : ∀ m, cs.length = m * size → (m + n) * bytes ≤ room) :
    ∃ v' s', appendOp tg size bytes s v y = some (v', s') ∧ Gr s' lo size v' (cs ++ new) ∧ Low lo s s' ∧ (∀ a, a < s.next → (∀ b k, v = sl b k → a ≠ b) → s'.get a = s.get a) := by
  have e0 : appendOp tg size bytes s v y = appendNew tg size bytes s v n new := by
    show ob (lenOf y) (fun n => ob (s.elems size y n) fun new => appendNew tg size bytes s v n new) = _
    rw [hn, ob_some, hy, ob_some]
  rw [e0]
  have hsz : esz size = size := by
    have : size < 65536 := by rw [← htg]; exact Nat.mod_lt _ (by omega)
    exact Nat.mod_eq_of_lt this
  by_cases h0 : n = 0
  · subst h0
    have : new = [] := List.length_eq_zero_iff.1 (by simpa using hnl)
    subst this
    rw [List.append_nil]
    refine ⟨v, s, ?_, h, .refl hlo, fun _ _ _ => rfl⟩
    cases h <;> rfl
  have hb0 : Nat.beq n 0 = false := by
    cases e : Nat.beq n 0 with
    | false => rfl
    | true => rw [Nat.beq_eq] at e; exact absurd e h0
  cases h with
  | nil =>
    have hr := hroom 0 (by simp)
    refine ⟨sl s.next n, s.made new tg .gr, ?_, ?_, (Low.refl hlo).made _ _ _, fun a ha _ => ?_⟩
    · show cnd (Nat.beq n 0) _ (must (Nat.ble ((0 + n) * bytes) room) (some (sl s.next (0 + n), s.made new tg .gr))) = _
      rw [hb0, cnd_false, Nat.ble_eq_true_of_le hr, must_true, Nat.zero_add]
    · exact .mk hlo (by rw [next_made]; omega) (by rw [get_made, if_pos rfl]; rfl) htg hnl
    · rw [get_made, if_neg (by omega)]
  | mk hlo' hb hg he hcn =>
    rename_i b m es
    have hr := hroom m hcn
    refine ⟨sl s.next (m + n), (s.set b .dead).made (cs ++ new) (cnd (Nat.beq es tg) es size) .gr, ?_, ?_, ?_, fun a ha hab => ?_⟩
    · show cnd (Nat.beq n 0) _ (must (Nat.ble ((m + n) * bytes) room) (cnd (Nat.beq open_ open_) (ob (asCells (s.get b)) fun c => cnd (Nat.beq (0 + m * size) (lenL c.1)) (appendEnd s tg size ⟨b, 0, none⟩ (m + n) new c.1 c.2.1 c.2.2) _) _)) = _
      rw [hb0, cnd_false, Nat.ble_eq_true_of_le hr, must_true, Nat.beq_refl, cnd_true, hg]
      show cnd (Nat.beq (0 + m * size) (lenL cs)) (must (Md.grows .gr) (must (Nat.beq (esz es) size) (some (sl s.next (m + n), (s.set b .dead).made (appL (dropL 0 cs) new) _ .gr)))) _ = _
      rw [lenL_eq, hcn, Nat.zero_add, Nat.beq_refl, cnd_true, he, Nat.beq_refl]
      simp only [appL_eq, dropL_eq, List.drop_zero]
      rfl
    · refine .mk (by show lo ≤ s.next; exact hlo) (by rw [next_made]; show s.next < s.next + 1; omega) (by rw [get_made]; exact if_pos rfl) ?_ ?_
      · cases e : Nat.beq es tg with
        | true => rw [cnd_true]; exact he
        | false => rw [cnd_false]; exact hsz
      · rw [List.length_append, hcn, hnl, Nat.add_mul]
    · exact ((Low.refl hlo).set hlo' _).made _ _ _
    · have hne : a ≠ b := hab b m rfl
      rw [get_made, if_neg (by show s.next ≠ a; omega), St.get_set_ne _ _ (Ne.symm hne)]
  | ex hlo' hb hg hl hno =>
    rename_i b o m cells es md
    have hcn : ((cells.drop o).take (m * size)).length = m * size := by simp; omega
    have hr := hroom m hcn
    have hrow : s.row ⟨b, o, none⟩ (m * size) = some ((cells.drop o).take (m * size)) := row_iff.2 ⟨cells, es, md, hg, hl, rfl⟩
    refine ⟨sl s.next (m + n), s.made ((cells.drop o).take (m * size) ++ new) tg .gr, ?_, ?_, (Low.refl hlo).made _ _ _, fun a ha _ => ?_⟩
    · show cnd (Nat.beq n 0) _ (must (Nat.ble ((m + n) * bytes) room) (appendAt tg size s (.slice (some ⟨b, o, none⟩) m m) ⟨b, o, none⟩ m m n new)) = _
      rw [hb0, cnd_false, Nat.ble_eq_true_of_le hr, must_true]
      have e1 : Nat.beq m open_ = false := by
        cases e : Nat.beq m open_ with
        | false => rfl
        | true => rw [Nat.beq_eq] at e; omega
      have e2 : Nat.ble (m + n) m = false := by
        cases e : Nat.ble (m + n) m with
        | false => rfl
        | true => rw [Nat.ble_eq] at e; omega
      unfold appendAt
      rw [e1, cnd_false, e2, cnd_false, elems_some, hrow, om_some, appL_eq]
    · exact .mk hlo (by rw [next_made]; omega) (by rw [get_made, if_pos rfl]) htg (by rw [List.length_append, hcn, hnl, Nat.add_mul])
    · rw [get_made, if_neg (by omega)]
theorem lenOf_str (l : List UInt8) : lenOf (strOf l) = some l.length := by
  show some (lenL l) = _
  rw [lenL_eq]
theorem elems_str (s : St) (l : List UInt8) : s.elems 1 (strOf l) l.length = some (l.map ofByte) := by
  show must (Nat.beq 1 1) (some (mapL ofByte (takeL l.length l))) = _
  rw [Nat.beq_refl, must_true, takeL_eq, List.take_length, mapL_eq]
end
end Go.Ev

namespace Go.Ev
noncomputable section
theorem wr_u8_nat (n : Nat) : wr .u8 (n : Int) = ((n % 256 : Nat) : Int) := by
  unfold wr
  rw [cnd_eq]
  split
  · rename_i h
    have h : (Bool.rec false (iLe (n : Int) 255) (iLe 0 (n : Int)) : Bool) = true := h
    rw [iLe_eq, iLe_eq, show decide ((0 : Int) ≤ (n : Int)) = true from by simp] at h
    have h : decide ((n : Int) ≤ 255) = true := h
    rw [decide_eq_true_eq] at h
    rw [Nat.mod_eq_of_lt (by omega)]
  · show ((BitVec.ofInt 8 n).toNat : Int) = _
    rw [BitVec.toNat_ofInt]
    omega
theorem wr_i64_nat {n : Nat} (h : n < 9223372036854775808) : wr .i64 (n : Int) = (n : Int) := wr_i64 (by omega) (by omega)
end
end Go.Ev

namespace Go.Ev
open Go (Sem)
section
variable {P : Program} {ι : Inj} {w : World} {base : Nat} {s : St}
theorem optByte_of : ∀ (b : List UInt8), optL toByte (b.map ofByte) = some b
  | [] => rfl
  | c :: b => by
    rw [List.map_cons, optL_cons]
    have h : toByte (ofByte c) = some c := by
      show ob (asInt (ofByte c)) (fun a => must (kEq a.1 .u8) (some (UInt8.ofNat a.2.toNat))) = some c
      show must true (some (UInt8.ofNat ((c.toNat : Int)).toNat)) = some c
      rw [Int.toNat_natCast, UInt8.ofNat_toNat]; rfl
    rw [h, ob_some, optByte_of b]; rfl
variable {f : FuncId} {fn : Func}
end
end Go.Ev

namespace Go.Ev
noncomputable section
section
variable {E : Env} {fr : Fr} {s : St} {b lo size : Nat} {Q : Fr → St → Prop} {ops : List COper} {d : Option Nat} {ix : Nat}
def Feed (s : St) (size : Nat) (y : Value) (new : List Value) : Prop := ∃ n, lenOf y = some n ∧ s.elems size y n = some new ∧ new.length = n * size
theorem Sl.feed {hi : Nat} {v : Value} {cs : List Value} (h : Sl s hi size v cs) : Feed s size v cs := by
  obtain ⟨p, n, c, rfl, hn⟩ := h.parts
  exact ⟨n, rfl, h.elems, hn⟩
theorem Feed.str (s : St) (l : List UInt8) : Feed s 1 (strOf l) (l.map ofByte) := ⟨l.length, lenOf_str l, elems_str s l, by simp⟩
theorem Wo_op {op : Cop} {v : Value} {s' : St} (h : (oneOp op).run (pc E) noRound fr s (b + ix) = some (v, s')) (k : Wo E b ops (putD fr d v) s' Q) : Wo E b (⟨d, op, none, ix, []⟩ :: ops) fr s Q :=
  Wo_run (l := [⟨d, op, none, ix, []⟩]) (m := ops) (by rw [ops_plain, h, ob_some, ops_nil]) k
theorem Wo_append {T bytes : Nat} {x y : Arg} {v w : Value} {cs new : List Value} (hx : x.ev fr = v) (hy : y.ev fr = w) (hg : Gr s lo size v cs) (hlo : lo ≤ s.next) (hw : Feed s size w new) (hz : 0 < size ∧ size < 65536)
    (hroom : (cs.length + new.length) * bytes ≤ room * size)
    (k : ∀ v' s', Gr s' lo size v' (cs ++ new) → Low lo s s' → (∀ a, a < s.next → (∀ b k, v = sl b k → a ≠ b) → s'.get a = s.get a) → Wo E b ops (putD fr d v') s' Q) : Wo E b (⟨d, .append T size bytes x y, none, ix, []⟩ :: ops) fr s Q := by
  obtain ⟨n, h1, h2, h3⟩ := hw
  obtain ⟨v', s', e, g1, g2, g3⟩ := append_gr (bytes := bytes) hz.1 (esz_tag (T := T) hz.2) hg hlo h1 h2 h3 (by
    intro m hm
    rw [hm, h3, ← Nat.add_mul] at hroom
    rw [Nat.mul_right_comm] at hroom
    exact Nat.le_of_mul_le_mul_right hroom hz.1)
  exact Wo_op (by rw [st_append, hx, hy]; exact e) (k v' s' g1 g2 g3)
theorem Wo_buildSlice {T n : Nat} {z : List Value} {ps : List (Nat × Nat × Arg)} {cs : List Value} (hf : fillL (evP fr ps) z = some cs) (hn : cs.length = n * size) (hlo : lo ≤ b + ix) (hb : b + ix < s.next) (hc : n < open_)
    (k : ∀ s', Sl s' (b + ix + 1) size (.slice (some ⟨b + ix, 0, none⟩) n n) cs ∧ Gr s' (b + ix) size (.slice (some ⟨b + ix, 0, none⟩) n n) cs → Low lo s s' → s' = s.set (b + ix) (.cells cs 0 .ex) → Wo E b ops (putD fr d (.slice (some ⟨b + ix, 0, none⟩) n n)) s' Q) : Wo E b (⟨d, .buildSlice T n z ps, none, ix, []⟩ :: ops) fr s Q := by
  refine Wo_op (v := .slice (some ⟨b + ix, 0, none⟩) n n) (s' := s.set (b + ix) (.cells cs 0 .ex)) (by rw [st_buildSlice, hf]; rfl) (k _ ?_ ((Low.refl (by omega)).set hlo _) rfl)
  have := Sl.mk (s := s.set (b + ix) (.cells cs 0 .ex)) (hi := b + ix + 1) (size := size) (b := b + ix) (o := 0) (n := n) (c := n) (by omega) (St.get_set_same _ _ _) (by omega) (.inl ⟨Nat.le_refl _, hc⟩)
  have h2 := Gr.ex (s := s.set (b + ix) (.cells cs 0 .ex)) (lo := b + ix) (size := size) (b := b + ix) (o := 0) (n := n) (Nat.le_refl _) (by rw [St.next_set]; exact hb) (St.get_set_same _ _ _) (by omega) hc
  rw [List.drop_zero, ← hn, List.take_length] at this h2
  exact ⟨this, h2⟩
end
end
end Go.Ev

namespace Go.Ev
noncomputable section
theorem bindM_mem {α β : Type} {k : α → Option (List β)} : ∀ {l : List α} {r : List β}, bindM k l = some r → ∀ y ∈ r, ∃ x ∈ l, ∃ a, k x = some a ∧ y ∈ a
  | [], r, h, y, hy => by cases h; cases hy
  | x :: l, r, h, y, hy => by
    rw [bindM_cons] at h
    obtain ⟨a, h1, h2⟩ := ob_eq.1 h
    obtain ⟨b, h3, rfl⟩ := om_eq.1 h2
    rw [appL_eq, List.mem_append] at hy
    rcases hy with hy | hy
    · exact ⟨x, by simp, a, h1, hy⟩
    · obtain ⟨z, h4, h5⟩ := bindM_mem h3 y hy
      exact ⟨z, List.mem_cons_of_mem _ h4, h5⟩
theorem bindL_mem {α β : Type} {k : α → Option (List β)} {l : List α} {r : List β} (h : bindL l k = some r) : ∀ y ∈ r, ∃ x ∈ l, ∃ a, k x = some a ∧ y ∈ a := by
  intro y hy
  cases l with
  | nil => cases h; cases hy
  | cons x l => cases l with
    | nil => exact ⟨x, by simp, r, h, hy⟩
    | cons z l => exact bindM_mem (k := k) (l := x :: z :: l) (show bindM k (x :: z :: l) = some r from h) y hy
def wOps (ops : List COper) : List Nat := ops.filterMap (·.dst)
def CCode.writes : CCode → List Nat
  | .region _ ops => wOps ops
  | .many _ ops => wOps ops
  | .seq a b => a.writes ++ b.writes
  | .cond _ a b => a.writes ++ b.writes
  | .block _ b => b.writes
  | .loop b => b.writes
  | _ => []
def CCode.simple : CCode → Bool
  | .seq a b => a.simple && b.simple
  | .cond _ a b => a.simple && b.simple
  | .block _ b => b.simple
  | .loop b => b.simple
  | .mapRange .. => false
  | .rangeFunc .. => false
  | _ => true
theorem runOps_keeps {call : Caller} {rd : Rounder} {b : Nat} : ∀ {ops : List COper} {fr fr' : Fr} {s s' : St}, runOps call rd b ops fr s = some (fr', s') → ∀ t, t ∉ wOps ops → fr'.get t = fr.get t
  | [], fr, fr', s, s', h, t, ht => by cases h; rfl
  | o :: ops, fr, fr', s, s', h, t, ht => by
    have ht2 : t ∉ wOps ops := fun k => ht (by
      unfold wOps at k ⊢
      rw [List.filterMap_cons]
      cases o.dst with
      | none => exact k
      | some d => exact List.mem_cons_of_mem _ k)
    have hput : ∀ v, (putD fr o.dst v).get t = fr.get t := by
      intro v
      cases hd : o.dst with
      | none => rfl
      | some d =>
        have : d ≠ t := fun e => ht (by
          unfold wOps
          rw [List.filterMap_cons, hd]
          simp [e])
        exact Tr.get_set_ne _ _ this
    have h : stepOp call rd b o (runOps call rd b ops) fr s = some (fr', s') := h
    have hd : doOp call rd b o (runOps call rd b ops) fr s = some (fr', s') → fr'.get t = fr.get t := by
      intro h
      obtain ⟨r, h1, h2⟩ := ob_eq.1 (show ob ((oneOp o.op).run call rd fr s (b + o.ix)) (fun r => List.rec (runOps call rd b ops (putD fr o.dst r.1) r.2) (fun _ _ _ => must (againOk fr r.2 o.again) (runOps call rd b ops (putD fr o.dst r.1) r.2)) o.again) = some (fr', s') from h)
      have h3 : runOps call rd b ops (putD fr o.dst r.1) r.2 = some (fr', s') := by
        revert h2
        cases o.again with
        | nil => exact id
        | cons x l => exact fun h => (must_eq.1 h).2
      rw [runOps_keeps h3 t ht2, hput]
    unfold stepOp at h
    cases hg : o.guard with
    | none => rw [hg] at h; exact hd h
    | some g =>
      rw [hg] at h
      have h : (Bool.rec (runOps call rd b ops (putD fr o.dst undef) s) (doOp call rd b o (runOps call rd b ops) fr s) (wanted g fr) : RF) = some (fr', s') := h
      cases hw : wanted g fr with
      | true => rw [hw] at h; exact hd h
      | false =>
        rw [hw] at h
        rw [runOps_keeps (ops := ops) h t ht2, hput]
theorem runOpsL_keeps {call : CallerL} {rd : RounderL} {b : Nat} : ∀ {ops : List COper} {fr : Fr} {s : St} {l : List (Fr × St)}, runOpsL call rd b ops fr s = some l → ∀ x ∈ l, ∀ t, t ∉ wOps ops → x.1.get t = fr.get t
  | [], fr, s, l, h, x, hx, t, ht => by
    cases h
    simp only [List.mem_cons, List.not_mem_nil, or_false] at hx
    subst hx; rfl
  | o :: ops, fr, s, l, h, x, hx, t, ht => by
    have ht2 : t ∉ wOps ops := fun k => ht (by
      unfold wOps at k ⊢
      rw [List.filterMap_cons]
      cases o.dst with
      | none => exact k
      | some d => exact List.mem_cons_of_mem _ k)
    have hput : ∀ v, (putD fr o.dst v).get t = fr.get t := by
      intro v
      cases hd : o.dst with
      | none => rfl
      | some d =>
        have : d ≠ t := fun e => ht (by
          unfold wOps
          rw [List.filterMap_cons, hd]
          simp [e])
        exact Tr.get_set_ne _ _ this
    have h : stepOpL call rd b o (runOpsL call rd b ops) fr s = some l := h
    have hd : doOpL call rd b o (runOpsL call rd b ops) fr s = some l → x.1.get t = fr.get t := by
      intro h
      obtain ⟨rs, h1, h2⟩ := ob_eq.1 h
      obtain ⟨r, _, a, h3, h4⟩ := bindL_mem h2 x hx
      rw [runOpsL_keeps h3 x h4 t ht2, hput]
    unfold stepOpL at h
    cases hg : o.guard with
    | none => rw [hg] at h; exact hd h
    | some g =>
      rw [hg] at h
      have h : (Bool.rec (runOpsL call rd b ops (putD fr o.dst undef) s) (doOpL call rd b o (runOpsL call rd b ops) fr s) (wanted g fr) : RFL) = some l := h
      cases hw : wanted g fr with
      | true => rw [hw] at h; exact hd h
      | false =>
        rw [hw] at h
        rw [runOpsL_keeps (ops := ops) h x hx t ht2, hput]
section
variable {E : Env}
theorem kSeq_mem {rc : Rec} {b : CCode} {r : RCL} {l : List (Ex × Fr × St)} (h : kSeq rc b r = some l) : ∀ y ∈ l, ∃ l0, r = some l0 ∧ ∃ x ∈ l0, (x.1 = .normal ∧ ∃ a, rc b x.2.1 x.2.2 = some a ∧ y ∈ a) ∨ y = x := by
  intro y hy
  obtain ⟨l0, h1, h2⟩ := ob_eq.1 h
  obtain ⟨x, h3, a, h4, h5⟩ := bindL_mem h2 y hy
  refine ⟨l0, h1, x, h3, ?_⟩
  obtain ⟨e, f, s⟩ := x
  cases e with
  | normal => exact .inl ⟨rfl, a, h4, h5⟩
  | exit j =>
    have h4 : some [((Ex.exit j, f, s) : Ex × Fr × St)] = some a := h4
    cases h4
    simp only [List.mem_cons, List.not_mem_nil, or_false] at h5
    exact .inr h5
  | ret =>
    have h4 : some [((Ex.ret, f, s) : Ex × Fr × St)] = some a := h4
    cases h4
    simp only [List.mem_cons, List.not_mem_nil, or_false] at h5
    exact .inr h5
theorem runC_keeps : ∀ (n : Nat) (c : CCode) (fr : Fr) (s : St) (l : List (Ex × Fr × St)), c.simple = true → runC E n c fr s = some l → ∀ x ∈ l, ∀ t, t ∉ c.writes → x.2.1.get t = fr.get t
  | 0, c, fr, s, l, _, h, _, _, _, _ => by cases h
  | n + 1, c, fr, s, l, hs, h, x, hx, t, ht => by
    have ih := runC_keeps n
    have h : (stepC c).run E (runC E n) fr s = some l := h
    have one : ∀ {e : Ex}, some [((e, fr, s) : Ex × Fr × St)] = some l → x.2.1.get t = fr.get t := by
      intro e h
      cases h
      simp only [List.mem_cons, List.not_mem_nil, or_false] at hx
      subst hx; rfl
    cases c with
    | skip => exact one h
    | exit j => exact one h
    | ret => exact one h
    | no => cases h
    | mapRange => cases hs
    | rangeFunc => cases hs
    | region news ops =>
      obtain ⟨r, h1, rfl⟩ := om_eq.1 (show om (runOps (one1 (callF E (runC E n))) noRound s.next ops fr (s.skip news)) (fun r => [(Ex.normal, r.1, r.2)]) = some l from h)
      simp only [List.mem_cons, List.not_mem_nil, or_false] at hx
      subst hx
      exact runOps_keeps h1 t ht
    | many news ops =>
      obtain ⟨r, h1, rfl⟩ := om_eq.1 (show om (runOpsL (callF E (runC E n)) (roundF (runC E n) E.res) s.next ops fr (s.skip news)) (fun l => mapL (fun r => (Ex.normal, r.1, r.2)) l) = some l from h)
      rw [mapL_eq, List.mem_map] at hx
      obtain ⟨y, hy, rfl⟩ := hx
      exact runOpsL_keeps h1 y hy t ht
    | seq a b =>
      have hs : (a.simple && b.simple) = true := hs
      rw [Bool.and_eq_true] at hs
      have ht : t ∉ a.writes ++ b.writes := ht
      rw [List.mem_append] at ht
      obtain ⟨l0, h1, y, hy, hc⟩ := kSeq_mem (show kSeq (runC E n) b (runC E n a fr s) = some l from h) x hx
      have k1 := ih a fr s l0 hs.1 h1 y hy t fun k => ht (.inl k)
      rcases hc with ⟨_, m, h2, h3⟩ | rfl
      · rw [ih b _ _ m hs.2 h2 x h3 t fun k => ht (.inr k), k1]
      · exact k1
    | cond c a b =>
      have hs : (a.simple && b.simple) = true := hs
      rw [Bool.and_eq_true] at hs
      have ht : t ∉ a.writes ++ b.writes := ht
      rw [List.mem_append] at ht
      obtain ⟨q, _, h2⟩ := ob_eq.1 (show ob (asBool (c.ev fr)) (fun x => cnd x (runC E n a fr s) (runC E n b fr s)) = some l from h)
      cases q with
      | true => exact ih a fr s l hs.1 h2 x hx t fun k => ht (.inl k)
      | false => exact ih b fr s l hs.2 h2 x hx t fun k => ht (.inr k)
    | block id b =>
      obtain ⟨l0, h1, rfl⟩ := om_eq.1 (show om (runC E n b fr s) (fun l => mapL (blockEx id) l) = some l from h)
      rw [mapL_eq, List.mem_map] at hx
      obtain ⟨y, hy, rfl⟩ := hx
      have e : (blockEx id y).2 = y.2 := by
        obtain ⟨e, f, s⟩ := y
        cases e with
        | exit j =>
          show (cnd (Nat.beq id j) (Ex.normal, f, s) (Ex.exit j, f, s)).2 = _
          cases Nat.beq id j <;> rfl
        | _ => rfl
      rw [e]
      exact ih b fr s l0 hs h1 y hy t ht
    | loop b =>
      obtain ⟨l0, h1, y, hy, hc⟩ := kSeq_mem (show kSeq (runC E n) (.loop b) (runC E n b fr s) = some l from h) x hx
      have k1 := ih b fr s l0 hs h1 y hy t ht
      rcases hc with ⟨_, m, h2, h3⟩ | rfl
      · rw [ih (.loop b) _ _ m hs h2 x h3 t ht, k1]
      · exact k1
variable {fr : Fr} {s : St} {Q : Ex → Fr → St → Prop}
theorem W.cut {c : CCode} {P : Ex → Fr → St → Prop} (h : W E c fr s P) (hs : c.simple = true) (k : ∀ e fr' s', P e fr' s' → (∀ t, t ∉ c.writes → fr'.get t = fr.get t) → Q e fr' s') : W E c fr s Q := by
  obtain ⟨n, e, fr', s', h1, h2⟩ := h
  exact ⟨n, e, fr', s', h1, k _ _ _ h2 fun t ht => runC_keeps n c fr s _ hs h1 (e, fr', s') (by simp) t ht⟩
theorem Wo.cut {b : Nat} {ops : List COper} {P Q : Fr → St → Prop} (h : Wo E b ops fr s P) (k : ∀ fr' s', P fr' s' → (∀ t, t ∉ wOps ops → fr'.get t = fr.get t) → Q fr' s') : Wo E b ops fr s Q := by
  obtain ⟨n, fr', s', h1, h2⟩ := h
  exact ⟨n, fr', s', h1, k _ _ h2 fun t ht => runOps_keeps h1 t ht⟩
end
section
variable {E : Env} {fr : Fr} {s : St} {b : Nat} {Q : Fr → St → Prop} {d : Option Nat} {op : Cop} {t : Option Nat} {x : Bool} {ix : Nat} {ops : List COper}
theorem W_gen {c : CCode} {Q : Ex → Fr → St → Prop} {T : List (Nat × Value)} (h : ∀ p ∈ T, fr.get p.1 = some p.2) (k : ∀ fr', (∀ p ∈ T, fr'.get p.1 = some p.2) → W E c fr' s Q) : W E c fr s Q := k fr h
theorem all_nil {fr : Fr} : ∀ p ∈ ([] : List (Nat × Value)), fr.get p.1 = some p.2 := fun _ h => by cases h
theorem all_cons {fr : Fr} {t : Nat} {v : Value} {T : List (Nat × Value)} (h : fr.get t = some v) (k : ∀ p ∈ T, fr.get p.1 = some p.2) : ∀ p ∈ (t, v) :: T, fr.get p.1 = some p.2 := by
  intro p hp
  rcases List.mem_cons.1 hp with rfl | hp
  · exact h
  · exact k p hp
theorem Wo_gt (hw : wanted (t, x) fr = true) (h : Wo E b (⟨d, op, none, ix, []⟩ :: ops) fr s Q) : Wo E b (⟨d, op, some (t, x), ix, []⟩ :: ops) fr s Q := Wo_guard hw (by rw [if_pos rfl]; exact h)
end
end
end Go.Ev

namespace Go.Ev
noncomputable section
structure Boxed (lo : Nat) (s s' : St) (a : Nat) (cs : List Value) : Prop where
  low : Low lo s s'
  ge : lo ≤ a
  lt : a < s'.next
  at_ : ∃ es, s'.get a = some (.cells cs es .ex)
section
variable {lo lo2 a b i n : Nat} {s s' t : St} {cs vs : List Value}
theorem Boxed.cell (h : Boxed lo s s' a cs) : s'.cell ⟨a, i, none⟩ = cs[i]? := by
  obtain ⟨es, h⟩ := h.at_
  show ob (asCells (s'.get a)) _ = _
  rw [h]
  exact nthL_eq _ _
theorem Boxed.row (h : Boxed lo s s' a cs) (hn : n = cs.length) : s'.row ⟨a, 0, none⟩ n = some cs := by
  subst hn
  obtain ⟨es, h⟩ := h.at_
  exact row_iff.2 ⟨cs, es, .ex, h, by simp, by simp⟩
theorem Boxed.part (h : Boxed lo s s' a cs) (hn : i + n ≤ cs.length) : s'.row ⟨a, i, none⟩ n = some ((cs.drop i).take n) := by
  obtain ⟨es, h⟩ := h.at_
  exact row_iff.2 ⟨cs, es, .ex, h, hn, rfl⟩
theorem Boxed.next (h : Boxed lo s s' a cs) (k : Low lo2 s' t) (hl : a < lo2) (hlo : lo ≤ lo2) : Boxed lo s t a cs :=
  ⟨h.low.trans (k.weak hlo), h.ge, Nat.lt_of_lt_of_le h.lt k.2.1, by obtain ⟨es, h⟩ := h.at_; exact ⟨es, by rw [k.2.2 a hl]; exact h⟩⟩
theorem Boxed.go (h : Boxed lo s s' a cs) (k : Low s'.next s' t) : Boxed lo s t a cs := h.next k h.lt h.low.le
theorem Boxed.set (h : Boxed lo s s' a cs) {o : Ob} (hb : lo ≤ b) (hab : a ≠ b) : Boxed lo s (s'.set b o) a cs :=
  ⟨h.low.set hb o, h.ge, h.lt, by obtain ⟨es, h⟩ := h.at_; exact ⟨es, by rw [St.get_set_ne _ _ (Ne.symm hab)]; exact h⟩⟩
theorem Boxed.skip (h : Boxed lo s s' a cs) (n : Nat) : Boxed lo s (s'.skip n) a cs :=
  ⟨h.low.skip n, h.ge, by rw [next_skip]; exact Nat.lt_of_lt_of_le h.lt (Nat.le_add_right _ _), by obtain ⟨es, h⟩ := h.at_; exact ⟨es, by rw [get_skip]; exact h⟩⟩
theorem Boxed.put {o : Nat} (h : Boxed lo s s' a cs) (hl : o + vs.length ≤ cs.length) : ∃ t, s'.put ⟨a, o, none⟩ vs = some t ∧ Boxed lo s t a (splice cs o vs) ∧ t.next = s'.next ∧ ∀ b, b ≠ a → t.get b = s'.get b := by
  obtain ⟨es, h1⟩ := h.at_
  refine ⟨s'.set a (.cells (splice cs o vs) es .ex), ?_, ⟨h.low.set h.ge _, h.ge, h.lt, es, St.get_set_same _ _ _⟩, rfl, fun b hb => St.get_set_ne _ _ (Ne.symm hb)⟩
  show ob (asCells (s'.get a)) (fun c => must c.2.2.writes (must (Nat.ble (o + lenL vs) (lenL c.1)) (some (s'.set a (.cells (splice c.1 o vs) c.2.1 c.2.2))))) = _
  rw [h1]
  show must true (must (Nat.ble (o + lenL vs) (lenL cs)) _) = _
  rw [must_true, lenL_eq, lenL_eq, Nat.ble_eq_true_of_le hl, must_true]
theorem Boxed.same {b : Nat} {ds : List Value} (h : Boxed lo s s' b ds) (hn : t.next = s'.next) (k : ∀ c, c ≠ a → t.get c = s'.get c) (hab : b ≠ a) (hlo : lo ≤ a) : Boxed lo s t b ds :=
  ⟨⟨h.low.1, by rw [hn]; exact h.low.2.1, fun c hc => by rw [k c (by omega)]; exact h.low.2.2 c hc⟩, h.ge, by rw [hn]; exact h.lt, by obtain ⟨es, h⟩ := h.at_; exact ⟨es, by rw [k b hab]; exact h⟩⟩
theorem Low.same {lo : Nat} (h : Low lo s s') (hn : t.next = s'.next) (k : ∀ c, c ≠ a → t.get c = s'.get c) (hlo : lo ≤ a) : Low lo s t :=
  ⟨h.1, by rw [hn]; exact h.2.1, fun c hc => by rw [k c (by omega)]; exact h.2.2 c hc⟩
end
section
variable {E : Env} {fr : Fr} {s0 s : St} {b lo : Nat} {Q : Fr → St → Prop} {ops : List COper} {d : Option Nat} {ix : Nat}
theorem Wo_alloc {T : Nat} {z : List Value} (hlo : Low lo s0 s) (hl : lo ≤ b + ix) (hb : b + ix < s.next)
    (k : ∀ s', Boxed lo s0 s' (b + ix) z → s'.next = s.next → (∀ c, c ≠ b + ix → s'.get c = s.get c) → Wo E b ops (putD fr d (ptr (b + ix) 0)) s' Q) : Wo E b (⟨d, .alloc T z, none, ix, []⟩ :: ops) fr s Q :=
  Wo_op (v := ptr (b + ix) 0) (s' := s.set (b + ix) (.cells z (tag T 0) .ex)) (st_alloc T z) (k _ ⟨hlo.set hl _, hl, hb, _, St.get_set_same _ _ _⟩ rfl fun c hc => St.get_set_ne _ _ (Ne.symm hc))
theorem Wo_box {T : Nat} {x : Arg} {v : Value} {z : List Value} (hx : x.ev fr = v) (hs : storable v = true) (hv : vcells v = z) (hlo : Low lo s0 s) (hl : lo ≤ b + ix) (hb : b + ix < s.next)
    (k : ∀ s', Boxed lo s0 s' (b + ix) z → s'.next = s.next → (∀ c, c ≠ b + ix → s'.get c = s.get c) → Wo E b ops (putD fr d (ptr (b + ix) 0)) s' Q) : Wo E b (⟨d, .box T x, none, ix, []⟩ :: ops) fr s Q :=
  Wo_op (v := ptr (b + ix) 0) (s' := s.set (b + ix) (.cells z 0 .ex)) (by rw [st_box, hx, hs, hv]; rfl) (k _ ⟨hlo.set hl _, hl, hb, _, St.get_set_same _ _ _⟩ rfl fun c hc => St.get_set_ne _ _ (Ne.symm hc))
end
theorem res_cell {fr : Fr} {s : St} {a n b : Nat} {cs : List Value} {l : List CRes} {r : List Value} (h : fr.get a = some (ptr b 0)) (hr : s.row ⟨b, 0, none⟩ n = some cs) (hl : optL (oneRes fr s) l = some r) : optL (oneRes fr s) (.cell a true n :: l) = some (.agg ⟨cs⟩ :: r) := by
  rw [optL_cons]
  have : oneRes fr s (.cell a true n) = some (.agg ⟨cs⟩) := by
    show ob (asAddr (orUndef (fr.get a))) (fun a => cnd true (om (s.row a n) fun l => Value.agg ⟨l⟩) (s.cell a)) = _
    rw [h, orUndef_some, asAddr_ptr, ob_some, cnd_true, hr, om_some]
  rw [this, ob_some, hl]; rfl
theorem vcells_int (k : IntKind) (n : Int) : vcells (.int k n) = [.int k n] := rfl
theorem vcells_bool (b : Bool) : vcells (.bool b) = [.bool b] := rfl
theorem vcells_str (l : List UInt8) : vcells (strOf l) = [strOf l] := rfl
theorem vcells_slice (p : Option Addr) (n c : Nat) : vcells (.slice p n c) = [.slice p n c] := rfl
theorem vcells_ptr (p : Option Addr) : vcells (.pointer p) = [.pointer p] := rfl
theorem vcells_agg (l : List Value) : vcells (.agg ⟨l⟩) = l := rfl
theorem stor_int (k : IntKind) (n : Int) : storable (.int k n) = true := rfl
theorem stor_bool (b : Bool) : storable (.bool b) = true := rfl
theorem stor_str (l : List UInt8) : storable (strOf l) = true := rfl
theorem stor_slice (p : Option Addr) (n c : Nat) : storable (.slice p n c) = true := rfl
theorem stor_ptr (p : Option Addr) : storable (.pointer p) = true := rfl
theorem stor_agg (l : List Value) : storable (.agg ⟨l⟩) = true := rfl
theorem len_one (v : Value) : Nat.beq (lenL [v]) 1 = true := rfl
end
end Go.Ev

namespace Go.Ev
theorem sim : type_of% (And.intro @skip_zero <| And.intro @ops_plain <| And.intro @ops_nil <| And.intro @ev_t <| And.intro @ev_c <| And.intro @orUndef_some <| And.intro @putD_some <| And.intro @putD_none <| And.intro @Tr.get_set <| And.intro @ob_some <| And.intro @om_some <| And.intro @evL_nil <| And.intro @evL_cons <| And.intro @evP_nil <| And.intro @evP_cons <| And.intro @evO_none <| And.intro @evO_some <| And.intro @st_mov <| And.intro @st_pick <| And.intro @st_bin <| And.intro @st_un <| And.intro @st_eqBool <| And.intro @st_eqNil <| And.intro @st_eqCells <| And.intro @st_convI <| And.intro @st_convSB <| And.intro @st_convBS <| And.intro @st_same <| And.intro @st_box <| And.intro @st_alloc <| And.intro @st_build <| And.intro @st_buildSlice <| And.intro @st_load1 <| And.intro @st_loadN <| And.intro @st_store <| And.intro @st_nilCheck <| And.intro @st_iface <| And.intro @st_mkFunc <| And.intro @st_mkSlice <| And.intro @st_sliceS <| And.intro @st_sliceV <| And.intro @st_faddr <| And.intro @st_iaddrA <| And.intro @st_iaddrV <| And.intro @st_fieldV <| And.intro @st_idxS <| And.intro @st_extract <| And.intro @st_lenC <| And.intro @st_lenS <| And.intro @st_lenV <| And.intro @st_append <| And.intro @st_callF <| And.intro @st_callV <| And.intro @st_capV <| And.intro @st_appendZ <| And.intro @st_eqPtrNil <| And.intro @asInt_int <| And.intro @asStr_strOf <| And.intro @asBool_bool <| And.intro @asPtr_pointer <| And.intro @asAddr_pointer <| And.intro @asAgg_agg <| And.intro @asTup_tuple <| And.intro @asSl_slice <| And.intro @asNat_int <| And.intro @cnd_true <| And.intro @cnd_false <| And.intro @must_true <| And.intro @tf_false <| And.intro @tf_true <| And.intro @bin_lss <| And.intro @bin_gtr <| And.intro @bin_leq <| And.intro @bin_geq <| And.intro @bin_eqlI <| And.intro @bin_neqI <| And.intro @bin_add <| And.intro @bin_sub <| And.intro @bin_mul <| And.intro @bin_eqlS <| And.intro @bin_neqS <| And.intro @un_not <| And.intro @num_int <| And.intro @ofByte_int <| And.intro @ptr_pointer <| And.intro @sl_slice <| And.intro @ops_guard_t <| And.intro @ops_guard_f <| And.intro @wanted_some <| And.intro @wantB_tt <| And.intro @wantB_tf <| And.intro @wantB_ft <| And.intro @wantB_ff <| And.intro @vcells_int <| And.intro @vcells_bool <| And.intro @vcells_str <| And.intro @vcells_slice <| And.intro @vcells_ptr <| And.intro @vcells_agg <| And.intro @stor_int <| And.intro @stor_bool <| And.intro @stor_str <| And.intro @stor_slice <| And.intro @stor_ptr <| And.intro @stor_agg <| And.intro @len_one <| And.intro @cell_skip <| And.intro @row_skip <| And.intro @asStr_string <| @add_eq) := And.intro @skip_zero <| And.intro @ops_plain <| And.intro @ops_nil <| And.intro @ev_t <| And.intro @ev_c <| And.intro @orUndef_some <| And.intro @putD_some <| And.intro @putD_none <| And.intro @Tr.get_set <| And.intro @ob_some <| And.intro @om_some <| And.intro @evL_nil <| And.intro @evL_cons <| And.intro @evP_nil <| And.intro @evP_cons <| And.intro @evO_none <| And.intro @evO_some <| And.intro @st_mov <| And.intro @st_pick <| And.intro @st_bin <| And.intro @st_un <| And.intro @st_eqBool <| And.intro @st_eqNil <| And.intro @st_eqCells <| And.intro @st_convI <| And.intro @st_convSB <| And.intro @st_convBS <| And.intro @st_same <| And.intro @st_box <| And.intro @st_alloc <| And.intro @st_build <| And.intro @st_buildSlice <| And.intro @st_load1 <| And.intro @st_loadN <| And.intro @st_store <| And.intro @st_nilCheck <| And.intro @st_iface <| And.intro @st_mkFunc <| And.intro @st_mkSlice <| And.intro @st_sliceS <| And.intro @st_sliceV <| And.intro @st_faddr <| And.intro @st_iaddrA <| And.intro @st_iaddrV <| And.intro @st_fieldV <| And.intro @st_idxS <| And.intro @st_extract <| And.intro @st_lenC <| And.intro @st_lenS <| And.intro @st_lenV <| And.intro @st_append <| And.intro @st_callF <| And.intro @st_callV <| And.intro @st_capV <| And.intro @st_appendZ <| And.intro @st_eqPtrNil <| And.intro @asInt_int <| And.intro @asStr_strOf <| And.intro @asBool_bool <| And.intro @asPtr_pointer <| And.intro @asAddr_pointer <| And.intro @asAgg_agg <| And.intro @asTup_tuple <| And.intro @asSl_slice <| And.intro @asNat_int <| And.intro @cnd_true <| And.intro @cnd_false <| And.intro @must_true <| And.intro @tf_false <| And.intro @tf_true <| And.intro @bin_lss <| And.intro @bin_gtr <| And.intro @bin_leq <| And.intro @bin_geq <| And.intro @bin_eqlI <| And.intro @bin_neqI <| And.intro @bin_add <| And.intro @bin_sub <| And.intro @bin_mul <| And.intro @bin_eqlS <| And.intro @bin_neqS <| And.intro @un_not <| And.intro @num_int <| And.intro @ofByte_int <| And.intro @ptr_pointer <| And.intro @sl_slice <| And.intro @ops_guard_t <| And.intro @ops_guard_f <| And.intro @wanted_some <| And.intro @wantB_tt <| And.intro @wantB_tf <| And.intro @wantB_ft <| And.intro @wantB_ff <| And.intro @vcells_int <| And.intro @vcells_bool <| And.intro @vcells_str <| And.intro @vcells_slice <| And.intro @vcells_ptr <| And.intro @vcells_agg <| And.intro @stor_int <| And.intro @stor_bool <| And.intro @stor_str <| And.intro @stor_slice <| And.intro @stor_ptr <| And.intro @stor_agg <| And.intro @len_one <| And.intro @cell_skip <| And.intro @row_skip <| And.intro @asStr_string <| @add_eq
theorem sims : type_of% (And.intro @sim <| And.intro @if_true.{1} <| And.intro @if_false.{1} <| And.intro @eq_self.{1} <| And.intro @Bool.false_eq_true <| And.intro @decide_true <| And.intro @decide_false <| And.intro @Bool.not_true <| And.intro @Bool.not_false <| And.intro @Nat.mul_one <| And.intro @Nat.zero_add <| And.intro @Nat.add_zero <| And.intro @Option.isNone_none.{0} <| @Option.isNone_some.{0}) := And.intro @sim <| And.intro @if_true.{1} <| And.intro @if_false.{1} <| And.intro @eq_self.{1} <| And.intro @Bool.false_eq_true <| And.intro @decide_true <| And.intro @decide_false <| And.intro @Bool.not_true <| And.intro @Bool.not_false <| And.intro @Nat.mul_one <| And.intro @Nat.zero_add <| And.intro @Nat.add_zero <| And.intro @Option.isNone_none.{0} <| @Option.isNone_some.{0}
end Go.Ev

namespace Go.Ev
open Go
theorem returnsInHanded_shaped {H : Type} {enc : TypeId × Value → H} {a : Assume} {C : Checked} {os : Os} {f : FuncId} {fn : Func} {s : ChangeSpec} {conds : List PathCond} {apart fresh handsOn again : Bool} {X : World → Array Value → Prop}
    (hX : ∀ (w w' : World) (args : Array Value), w.heap = w'.heap → X w args → X w' args)
    (own : ownKnob C.prog.godebug = none) (started : os.Started) (noInit : C.prog.inits.idxOf? f = none) (hfn : C.prog.funcs[f]? = some fn)
    (witness : ∃ (w : World) (tape : Tape) (i : Input), w.os = os ∧ (w.forCall tape i).Shaped C.prog ∧ i.vars = [] ∧ Input.okWide C.prog (w.forCall tape i) .any w.heap.size f i ∧
      ((s.pre enc C.prog fn conds apart (w.forCall tape i).memory i.args ∧ X (w.forCall tape i).memory i.args) ∧ sizedMet enc C.prog fn (OpenSpec.ofChange s) apart (w.forCall tape i).memory i.args) ∧ a.holds C.prog (lone (Frame.enter C.prog f i.args .normal) [] (w.forCall tape i)))
    (contract : ∀ (W : World) (base : Nat) (args : Array Value) (ds gs : List (DataW H)) (before : List MemPlace), W.ShapedOpen C.prog →
      (∀ (j : Nat) (t : TypeId) (v : Value), fn.params[j]? = some t → args[j]? = some v → Value.okWide C.prog W .any base t v) →
      DataW.Whole enc C.prog fn.params.toList s.vars apart W args.toList ds gs before →
      conds.all (PathCond.test C.prog ⟨fn.params.toList, ds, s.plain.varTypes C.prog, gs⟩) = true →
      (DataW.weightsEach C.prog (fn.params.toList ++ s.plain.varTypes C.prog) (ds ++ gs)).all (· ≤ reachBytes) = true → X W args →
      Calls C.prog f args W fun e W' => ∃ v, e = .returned v ∧ s.post enc C.prog fn apart fresh handsOn again W args v W') :
    ReturnsInHanded a C os f .any (fun w args => (s.pre enc C.prog fn conds apart w args ∧ X w args) ∧ sizedMet enc C.prog fn (OpenSpec.ofChange s) apart w args) (s.post enc C.prog fn apart fresh handsOn again) := by
  refine returnsInHanded_of_calls own started noInit witness ?_
  intro w tape i _ hshape _ hok hpre _
  obtain ⟨_, _, _, fn', hfn', _, _, _, _, hval⟩ := hok
  have e : fn' = fn := Option.some.inj (hfn'.symm.trans hfn)
  subst e
  obtain ⟨⟨⟨ds, gs, before, hw, hc⟩, hx⟩, hz⟩ := hpre
  have hw' := DataW.Whole.of_heap (w' := w.forCall tape i) (by rfl) hw
  refine (contract (w.forCall tape i) w.heap.size i.args ds gs before hshape hval hw' hc (hz.weights hw) (hX _ _ _ (by rfl) hx)).mono fun e W' ⟨v, he, hp⟩ => ?_
  subst he
  exact ChangeSpec.post_blind hp
end Go.Ev

namespace Go.Ev
open Go
section
variable {P : Program} {w : World} {r : Reach} {base : Nat} {t : TypeId} {v : Value}
inductive CellsOk (P : Program) (w : World) (r : Reach) (base : Nat) : List TypeId → List Value → Prop
  | nil : CellsOk P w r base [] []
  | cons {t : TypeId} {v : Value} {ts : List TypeId} {vs : List Value} (h : Cell.okWide P w r base t v) (k : CellsOk P w r base ts vs) : CellsOk P w r base (t :: ts) (v :: vs)
theorem CellsOk.of : ∀ {ts : List TypeId} {cs : List Value}, cs.length = ts.length → (∀ (i : Nat) (u : TypeId) (v : Value), ts[i]? = some u → cs[i]? = some v → Cell.okWide P w r base u v) → CellsOk P w r base ts cs
  | [], [], _, _ => .nil
  | [], _ :: _, h, _ => by simp at h
  | _ :: _, [], h, _ => by simp at h
  | t :: ts, v :: vs, h, k => .cons (k 0 t v rfl rfl) (CellsOk.of (by simpa using h) fun i u x hu hx => k (i + 1) u x (by simpa using hu) (by simpa using hx))
end
def globInj1 (n : Nat) (B : Blk) : Inj := fun a => if a < n then some ⟨a, 0, 0, 0⟩ else if a = n then some B else none
theorem VR.dark {m : Nat} {a : Addr} {n c : Nat} (hs : a.spot = none) (hn : n ≤ c) : VR (globInj1 m ⟨a.block, a.off, a.off + c, 1⟩) (.slice (some ⟨m, 0, none⟩) n open_) (.slice (some a) n c) := by
  obtain ⟨b, o, sp⟩ := a
  simp only at hs
  subst hs
  refine .slO (B := ⟨b, o, o + c, 1⟩) ?_ rfl rfl (by simp) hn
  show globInj1 _ _ m = _
  unfold globInj1
  rw [if_neg (by omega), if_pos rfl]
end Go.Ev

namespace Go.Ev
noncomputable section
def rowsInj (n : Nat) (R : List (Blk × List Value)) : Inj := fun a => if a < n then some ⟨a, 0, 0, 0⟩ else (R[a - n]?).map (·.1)
def rowsSt (n : Nat) (R : List (Blk × List Value)) : St := ⟨Tr.ofList .e n (R.map fun r => Ob.cells r.2 0 .ro), n + R.length⟩
theorem ofList_get {α : Type} : ∀ (l : List α) (t : Tr α) (n a : Nat), (Tr.ofList t n l).get a = if n ≤ a ∧ a < n + l.length then l[a - n]? else t.get a
  | [], t, n, a => by
    rw [if_neg (by simp)]; rfl
  | x :: l, t, n, a => by
    show (Tr.ofList (t.set n x) (n + 1) l).get a = _
    rw [ofList_get l _ _ a]
    by_cases h1 : n + 1 ≤ a ∧ a < n + 1 + l.length
    · rw [if_pos h1, if_pos (by simp; omega), show a - n = (a - (n + 1)) + 1 from by omega, List.getElem?_cons_succ]
    · rw [if_neg h1, Tr.get_set]
      by_cases h2 : n = a
      · subst h2; rw [if_pos rfl, if_pos (by simp)]; simp
      · rw [if_neg h2, if_neg (by simp; omega)]
theorem rowsSt_get {n : Nat} {R : List (Blk × List Value)} {a : Nat} : (rowsSt n R).get a = if n ≤ a then (R[a - n]?).map fun r => Ob.cells r.2 0 .ro else none := by
  show (Tr.ofList .e n (R.map fun r => Ob.cells r.2 0 .ro)).get a = _
  rw [ofList_get]
  by_cases h : n ≤ a
  · by_cases h2 : a < n + (R.map fun r => Ob.cells r.2 0 .ro).length
    · rw [if_pos ⟨h, h2⟩, if_pos h, List.getElem?_map]
    · rw [if_neg (by omega), if_pos h, List.getElem?_eq_none (by simp at h2; omega)]
      exact Tr.get_e a
  · rw [if_neg (by omega), if_neg h]; exact Tr.get_e a
theorem rowsInj_at {n : Nat} {R : List (Blk × List Value)} {i : Nat} {r : Blk × List Value} (h : R[i]? = some r) : rowsInj n R (n + i) = some r.1 := by
  unfold rowsInj
  rw [if_neg (by omega), show n + i - n = i from by omega, h]; rfl
theorem rows_rel {w : World} {n : Nat} {R : List (Blk × List Value)} (hsz : n ≤ w.heap.size)
    (h : ∀ (i : Nat) (r : Blk × List Value), R[i]? = some r → ∃ cs' T fr, w.heap[r.1.b]? = some (.cells cs' T fr) ∧ cs'.size = r.1.n ∧ r.1.sh + r.2.length ≤ r.1.n ∧ ∀ (j : Nat) (x : Value), r.2[j]? = some x → scal x ∧ ∃ y, cs'[r.1.sh + j]? = some y ∧ VR (rowsInj n R) x y) :
    Rel (rowsInj n R) w.heap.size (rowsSt n R) w := by
  have hg : ∀ a o, (rowsSt n R).get a = some o → ∃ i r, a = n + i ∧ R[i]? = some r ∧ o = .cells r.2 0 .ro := by
    intro a o ho
    rw [rowsSt_get] at ho
    split at ho
    · rename_i hna
      rw [Option.map_eq_some_iff] at ho
      obtain ⟨r, h1, h2⟩ := ho
      exact ⟨a - n, r, by omega, h1, h2.symm⟩
    · cases ho
  have hro : ∀ a o, (rowsSt n R).get a = some o → owned o = false := by
    intro a o ho
    obtain ⟨i, r, _, _, rfl⟩ := hg a o ho
    rfl
  refine ⟨fun a o ho _ => ?_, fun a a' o o' B B' ho _ _ h' => ?_, fun a o B ho h' => ?_, fun a ha => ⟨?_, ?_⟩, fun a B h' => ?_, Nat.le_refl _⟩
  · obtain ⟨i, r, rfl, h1, rfl⟩ := hg a o ho
    obtain ⟨cs', T, fr, h2, h3, h4, h5⟩ := h i r h1
    exact ⟨r.1, rowsInj_at h1, cs', T, fr, h2, ⟨h3, h4, h5, trivial⟩, tyOk.zero fun h => by cases h⟩
  · rw [hro a o ho] at h'; cases h'
  · rw [hro a o ho] at h'; cases h'
  · have ha : n + R.length ≤ a := ha
    rw [rowsSt_get, if_pos (by omega), List.getElem?_eq_none (by omega)]; rfl
  · have ha : n + R.length ≤ a := ha
    unfold rowsInj
    rw [if_neg (by omega), List.getElem?_eq_none (by omega)]; rfl
  · unfold rowsInj at h'
    split at h'
    · cases h'; simp only; omega
    · rw [Option.map_eq_some_iff] at h'
      obtain ⟨r, h1, rfl⟩ := h'
      obtain ⟨cs', T, fr, h2, _⟩ := h _ r h1
      exact (Array.getElem?_eq_some_iff.1 h2).1
theorem VR.laid {n i m c : Nat} {R : List (Blk × List Value)} {r : Blk × List Value} {a : Addr} (h : R[i]? = some r) (hb : r.1.b = a.block) (ho : r.1.sh = a.off) (hs : a.spot = none) (hc : c < open_) (hm : m ≤ c) :
    VR (rowsInj n R) (.slice (some ⟨n + i, 0, none⟩) m c) (.slice (some a) m c) := by
  obtain ⟨b, o, sp⟩ := a
  simp only at hb ho hs
  subst hb ho hs
  exact .sl ⟨r.1, rowsInj_at h, rfl, rfl⟩ hc hm
end
end Go.Ev

namespace Go.Ev
noncomputable section
def Lay (w : World) (n : Nat) (R : List (Blk × List Value)) : Prop := ∀ (i : Nat) (r : Blk × List Value), R[i]? = some r → ∃ cs' T fr, w.heap[r.1.b]? = some (.cells cs' T fr) ∧ cs'.size = r.1.n ∧ r.1.sh + r.2.length ≤ r.1.n ∧
  ∀ (j : Nat) (x : Value), r.2[j]? = some x → scal x ∧ ∃ y, cs'[r.1.sh + j]? = some y ∧ VR (rowsInj n R) x y
section
variable {w : World} {n : Nat} {R Z : List (Blk × List Value)}
theorem Lay.nil : Lay w n [] := by intro i r h; simp at h
theorem Lay.rel (h : Lay w n R) (hsz : n ≤ w.heap.size) : Rel (rowsInj n R) w.heap.size (rowsSt n R) w := rows_rel hsz h
def Opens (w : World) (n : Nat) (y : Value) (P : St → Value → Prop) : Prop := ∀ R, Lay w n R → ∃ Z x, Lay w n (R ++ Z) ∧ VR (rowsInj n (R ++ Z)) x y ∧ scal x ∧ P (rowsSt n (R ++ Z)) x
theorem Opens.mono {y : Value} {P Q : St → Value → Prop} (h : Opens w n y P) (k : ∀ s x, P s x → Q s x) : Opens w n y Q := fun R hR =>
  let ⟨Z, x, h1, h2, h3, h4⟩ := h R hR; ⟨Z, x, h1, h2, h3, k _ _ h4⟩
end
/- Slices among the arguments. -/
section
variable {P : Program} {w : World}
end
section
variable {H : Type} {enc : TypeId × Value → H} {P : Program} {w : World} {base n : Nat} {t e : TypeId} {v : Value} {fuel : Nat} {d : DataW H} {p : List MemPlace}
open Go.ChangeShapes Go.WideShapes
end
end
end Go.Ev

namespace Go.Ev
noncomputable section
theorem sameV_str (b : ByteArray) : sameV (.string b) (.string b) = true := by
  show bytesEq b.data.toList b.data.toList = true
  rw [bytesEq_eq]; simp
theorem addrEq_refl {a : Addr} (h : a.spot = none) : addrEq a a = true := by
  unfold addrEq
  rw [Nat.beq_refl, Nat.beq_refl, h]; rfl
theorem sameV_slice {p : Option Addr} {n c : Nat} (h : ∀ a, p = some a → a.spot = none) : sameV (.slice p n c) (.slice p n c) = true := by
  show (oAddrEq p p && Nat.beq n n && Nat.beq c c) = true
  rw [Nat.beq_refl, Nat.beq_refl]
  cases p with
  | none => rfl
  | some a => show (addrEq a a && true && true) = true; rw [addrEq_refl (h a rfl)]; rfl
theorem sameL_refl : ∀ {l : List Value}, (∀ v ∈ l, sameV v v = true) → sameL l l = true
  | [], _ => rfl
  | v :: l, h => by
    show (sameV v v && sameL l l) = true
    rw [h v (by simp), sameL_refl fun x hx => h x (List.mem_cons_of_mem _ hx)]; rfl
theorem same_agg {l : List Value} (h : ∀ v ∈ l, sameV v v = true) : same (.agg ⟨l⟩) (.agg ⟨l⟩) = true := sameL_refl h
theorem same_str (b : ByteArray) : same (.string b) (.string b) = true := sameV_str b
theorem same_slice {p : Option Addr} {n c : Nat} (h : ∀ a, p = some a → a.spot = none) : same (.slice p n c) (.slice p n c) = true := sameV_slice h
theorem Sl.spot {s : St} {hi size n c : Nat} {p : Option Addr} {cs : List Value} (h : Sl s hi size (.slice p n c) cs) : ∀ a, p = some a → a.spot = none := by
  cases h with
  | nil => intro a h; cases h
  | mk _ _ _ _ => intro a h; cases h; rfl
section
variable {E : Env} {fr : Fr} {s : St} {b : Nat} {Q : Fr → St → Prop} {ops : List COper} {d : Option Nat} {ix : Nat} {l : List (Option Nat × Cop × Option (Option Nat × Bool))}
theorem again_nil : againOk fr s [] = true := rfl
theorem again_cons {t : Nat} {op : Cop} {v : Value} {s' : St} (h : (cop op).run fr s 0 = some (v, s')) (ht : fr.get t = some v) (hs : same v v = true) (k : againOk fr s l = true) : againOk fr s ((some t, op, none) :: l) = true := by
  show cnd true (Option.rec false (fun r => cnd (same r.1 (orUndef (fr.get t))) (againOk fr s l) false) ((cop op).run fr s 0)) (againOk fr s l) = true
  rw [h, ht]
  show cnd (same v v) (againOk fr s l) false = true
  rw [hs, k]; rfl
theorem again_load1 {t a : Nat} {p : Addr} {v : Value} (ha : fr.get a = some (.pointer (some p))) (hc : s.cell p = some v) (ht : fr.get t = some v) (hs : same v v = true) (k : againOk fr s l = true) : againOk fr s ((some t, .load1 (.t a), none) :: l) = true :=
  again_cons (v := v) (s' := s) (by
    show ob (asAddr ((Arg.t a).ev fr)) (fun a => om (s.cell a) fun v => (v, s)) = _
    rw [ev_t, ha, orUndef_some, asAddr_pointer, ob_some, hc]; rfl) ht hs k
theorem again_loadN {t a n : Nat} {p : Addr} {cs : List Value} (ha : fr.get a = some (.pointer (some p))) (hc : s.row p n = some cs) (ht : fr.get t = some (.agg ⟨cs⟩)) (hs : same (.agg ⟨cs⟩) (.agg ⟨cs⟩) = true) (k : againOk fr s l = true) : againOk fr s ((some t, .loadN n (.t a), none) :: l) = true :=
  again_cons (v := .agg ⟨cs⟩) (s' := s) (by
    show ob (asAddr ((Arg.t a).ev fr)) (fun a => om (s.row a n) fun l => (Value.agg ⟨l⟩, s)) = _
    rw [ev_t, ha, orUndef_some, asAddr_pointer, ob_some, hc]; rfl) ht hs k
theorem Wo_callA {f : FuncId} {xs : List Arg} {args : List Value} {y : Option Nat × Cop × Option (Option Nat × Bool)} (hp : E.prim f = none) (ha : evL fr xs = args)
    (h : Cv E f args s fun v s' => againOk fr s' (y :: l) = true ∧ Wo E b ops (putD fr d v) s' Q) : Wo E b (⟨d, .callF f xs, none, ix, y :: l⟩ :: ops) fr s Q := by
  obtain ⟨n, v, s1, h1, h0, m, f2, s2, h2, h3⟩ := h
  refine ⟨max n m, f2, s2, ?_, h3⟩
  rw [ops_again, st_callF, ha]
  have e : one1 (callF E (runC E (max n m))) f args s = some (v, s1) := by
    unfold one1 callF
    rw [hp]
    show oneL (callC E (runC E (max n m)) f args s) = _
    rw [callC_run (Nat.le_max_left n m) h1]; rfl
  rw [e, ob_some]
  show must (againOk fr s1 (y :: l)) _ = _
  rw [h0, must_true]
  exact runOps_mono (one1_mono fun f a s => callF_mono (runC_mono (Nat.le_max_right n m)) f a s) _ _ _ _ _ h2
end
end
end Go.Ev

namespace Go.Ev
noncomputable section
def Row (s : St) (a : Nat) (cs : List Value) : Prop := ∃ es, s.get a = some (.cells cs es .ex)
def But (a : Nat) (s t : St) : Prop := s.next ≤ t.next ∧ ∀ b, b < s.next → b ≠ a → t.get b = s.get b
section
variable {a b i n o : Nat} {s t u : St} {cs vs : List Value}
theorem nilOk_ptr (x : Addr) : nilOk (.pointer (some x)) = true := rfl
theorem Row.cell (h : Row s a cs) (i : Nat) : s.cell ⟨a, i, none⟩ = cs[i]? := by
  obtain ⟨es, h⟩ := h
  show ob (asCells (s.get a)) _ = _
  rw [h]
  exact nthL_eq _ _
theorem Row.row (h : Row s a cs) (hn : n = cs.length) : s.row ⟨a, 0, none⟩ n = some cs := by
  subst hn
  obtain ⟨es, h⟩ := h
  exact row_iff.2 ⟨cs, es, .ex, h, by simp, by simp⟩
theorem Row.part (h : Row s a cs) (hn : i + n ≤ cs.length) : s.row ⟨a, i, none⟩ n = some ((cs.drop i).take n) := by
  obtain ⟨es, h⟩ := h
  exact row_iff.2 ⟨cs, es, .ex, h, hn, rfl⟩
theorem Row.put (h : Row s a cs) (hl : o + vs.length ≤ cs.length) : ∃ t, s.put ⟨a, o, none⟩ vs = some t ∧ Row t a (splice cs o vs) ∧ t.next = s.next ∧ ∀ b, b ≠ a → t.get b = s.get b := by
  obtain ⟨es, h1⟩ := h
  refine ⟨s.set a (.cells (splice cs o vs) es .ex), ?_, ⟨es, St.get_set_same _ _ _⟩, rfl, fun b hb => St.get_set_ne _ _ (Ne.symm hb)⟩
  show ob (asCells (s.get a)) (fun c => must c.2.2.writes (must (Nat.ble (o + lenL vs) (lenL c.1)) (some (s.set a (.cells (splice c.1 o vs) c.2.1 c.2.2))))) = _
  rw [h1]
  show must true (must (Nat.ble (o + lenL vs) (lenL cs)) _) = _
  rw [must_true, lenL_eq, lenL_eq, Nat.ble_eq_true_of_le hl, must_true]
theorem Row.low {lo : Nat} (h : Row s a cs) (k : Low lo s t) (hl : a < lo) : Row t a cs := by obtain ⟨es, h⟩ := h; exact ⟨es, by rw [k.2.2 a hl]; exact h⟩
theorem Row.but (h : Row s b cs) (k : But a s t) (hb : b < s.next) (hab : b ≠ a) : Row t b cs := by obtain ⟨es, h⟩ := h; exact ⟨es, by rw [k.2 b hb hab]; exact h⟩
theorem Row.skip (h : Row s a cs) (n : Nat) : Row (s.skip n) a cs := by obtain ⟨es, h⟩ := h; exact ⟨es, by rw [get_skip]; exact h⟩
theorem But.refl (a : Nat) (s : St) : But a s s := ⟨Nat.le_refl _, fun _ _ _ => rfl⟩
theorem But.trans (h : But a s t) (k : But a t u) : But a s u := ⟨Nat.le_trans h.1 k.1, fun b hb hab => (k.2 b (Nat.lt_of_lt_of_le hb h.1) hab).trans (h.2 b hb hab)⟩
theorem Low.but (h : Low s.next s t) (a : Nat) : But a s t := ⟨h.2.1, fun b hb _ => h.2.2 b hb⟩
theorem but_put (hn : t.next = s.next) (h : ∀ b, b ≠ a → t.get b = s.get b) : But a s t := ⟨Nat.le_of_eq hn.symm, fun b _ hb => h b hb⟩
theorem But.new (h : But a s t) (ha : s.next ≤ a) : Low s.next s t := ⟨Nat.le_refl _, h.1, fun b hb => h.2 b hb (by omega)⟩
theorem But.low {lo : Nat} (h : But a s t) (ha : lo ≤ a) (hl : lo ≤ s.next) : Low lo s t := ⟨hl, h.1, fun b hb => h.2 b (by omega) (by omega)⟩
theorem But.lows {lo : Nat} (h : But a s t) (k : Low lo t u) (hl : s.next ≤ lo) : But a s u := ⟨Nat.le_trans h.1 k.2.1, fun b hb hab => (k.2.2 b (Nat.lt_of_lt_of_le hb hl)).trans (h.2 b hb hab)⟩
theorem Sl.but {hi size : Nat} {v : Value} (h : Sl s hi size v cs) (k : But a s t) (hh : hi ≤ s.next) (ha : hi ≤ a) : Sl t hi size v cs := by
  cases h with
  | nil => exact .nil
  | mk hb hg hl hc => exact .mk hb (by rw [k.2 _ (by omega) (by omega)]; exact hg) hl hc
theorem Gr.but {lo size : Nat} {v : Value} (h : Gr s lo size v cs) (k : But a s t) (ha : a < lo) : Gr t lo size v cs := by
  cases h with
  | nil => exact .nil
  | mk hlo hb hg he hn => exact .mk hlo (Nat.lt_of_lt_of_le hb k.1) (by rw [k.2 _ hb (by omega)]; exact hg) he hn
  | ex hlo hb hg hl hn => exact .ex hlo (Nat.lt_of_lt_of_le hb k.1) (by rw [k.2 _ hb (by omega)]; exact hg) hl hn
def Mid (s : St) (lo hi size : Nat) (v : Value) (cs : List Value) : Prop := Sl s hi size v cs ∧ ∀ q n c, v = .slice (some q) n c → lo ≤ q.block
section
variable {lo hi size : Nat} {v : Value}
theorem Gr.mid (h : Gr s lo size v cs) : Mid s lo s.next size v cs := by
  refine ⟨h.sl, fun q n c e => ?_⟩
  cases h with
  | nil => cases e
  | mk hlo _ _ _ _ => cases e; exact hlo
  | ex hlo _ _ _ _ => cases e; exact hlo
theorem Mid.but (h : Mid s lo hi size v cs) (k : But a s t) (hh : hi ≤ s.next) (ha : a < lo ∨ hi ≤ a) : Mid t lo hi size v cs := by
  obtain ⟨h1, h2⟩ := h
  cases h1 with
  | nil => exact ⟨.nil, h2⟩
  | mk hb hg hl hc =>
    have h3 := h2 _ _ _ rfl
    simp only at h3
    exact ⟨.mk hb (by rw [k.2 _ (by omega) (by omega)]; exact hg) hl hc, h2⟩
theorem Mid.low {lo' : Nat} (h : Mid s lo hi size v cs) (k : Low lo' s t) (hh : hi ≤ lo') : Mid t lo hi size v cs := ⟨h.1.low k hh, h.2⟩
theorem Mid.wide {hi' : Nat} (h : Mid s lo hi size v cs) (hh : hi ≤ hi') : Mid s lo hi' size v cs := ⟨h.1.wide hh, h.2⟩
theorem Mid.weak {lo' : Nat} (h : Mid s lo hi size v cs) (hl : lo' ≤ lo) : Mid s lo' hi size v cs := ⟨h.1, fun q n c e => Nat.le_trans hl (h.2 q n c e)⟩
theorem Mid.nil (s : St) (lo hi size : Nat) : Mid s lo hi size (.slice none 0 0) [] := ⟨.nil, fun q n c e => by cases e⟩
theorem Mid.cells (h : Mid s lo hi size v cs) : storable v = true ∧ vcells v = [v] := by
  obtain ⟨_, _, _, rfl, _⟩ := h.1.parts
  exact ⟨rfl, rfl⟩
theorem Gr.cells (h : Gr s lo size v cs) : storable v = true ∧ vcells v = [v] := h.mid.cells
end
theorem Sl.cells {hi size : Nat} {v : Value} (h : Sl s hi size v cs) : storable v = true ∧ vcells v = [v] := by
  obtain ⟨_, _, _, rfl, _⟩ := h.parts
  exact ⟨rfl, rfl⟩
theorem Wo_build {E : Env} {fr : Fr} {Q : Fr → St → Prop} {d : Option Nat} {ix b : Nat} {ops : List COper} {z l : List Value} {ps : List (Nat × Nat × Arg)} (h : fillL (evP fr ps) z = some l) (k : Wo E b ops (putD fr d (.agg ⟨l⟩)) s Q) : Wo E b (⟨d, .build z ps, none, ix, []⟩ :: ops) fr s Q :=
  Wo_op (v := .agg ⟨l⟩) (s' := s) (by rw [st_build, h, om_some]) k
theorem Boxed.own {lo : Nat} {s0 : St} (h : Boxed lo s0 s a cs) : Row s a cs := h.at_
end
end
end Go.Ev

namespace Go.Ev
open Go (Sem)
noncomputable section
end
section
variable {P : Program} {ι κ : Inj} {base : Nat} {s s' : St} {w w' : World}
theorem Ext.newIn (r : Rel ι base s w) (b : Go.RowKit.Below w.heap.size w w') {g n es : Nat} (hg : w.heap.size ≤ g) (hlt : g < w'.heap.size) {o : Ob} (hl : live o = true) (hr : OR (ι.put s.next ⟨g, 0, n, es⟩) o ⟨g, 0, n, es⟩ w') :
    Ext none_ ι base s w (ι.put s.next ⟨g, 0, n, es⟩) ((s.set s.next o).bump 1) w' := by
  have e := Ext.ofBelow (S := none_) r b
  have r' := e.rel
  obtain ⟨n1, n2⟩ := r'.next s.next (Nat.le_refl _)
  have hle : ι.le (ι.put s.next ⟨g, 0, n, es⟩) := Inj.le_put _ n2
  have look : ∀ a o1, ((s.set s.next o).bump 1).get a = some o1 → (a = s.next ∧ o1 = o) ∨ (a ≠ s.next ∧ s.get a = some o1) := by
    intro a o1 h
    rw [St.get_bump, St.get_set] at h
    by_cases e : s.next = a
    · subst e; rw [if_pos rfl] at h; cases h; exact .inl ⟨rfl, rfl⟩
    · rw [if_neg e] at h; exact .inr ⟨fun e2 => e e2.symm, h⟩
  refine ⟨hle, ⟨?_, ?_, ?_, ?_, ?_, ?_⟩, by simp, ?_, e.keep, ?_, e.size, e.os, e.tape, e.output⟩
  · intro a o1 h hl1
    rcases look a o1 h with ⟨rfl, rfl⟩ | ⟨h1, h2⟩
    · exact ⟨_, Inj.put_same _ _ _, hr⟩
    · obtain ⟨B, g1, g2⟩ := r'.ob a o1 h2 hl1
      exact ⟨B, hle _ _ g1, g2.mono hle⟩
  · intro a a' o1 o2 B B' h h' hne ho hl2 hB hB'
    rcases look a o1 h with ⟨rfl, rfl⟩ | ⟨h1, h2⟩ <;> rcases look a' o2 h' with ⟨rfl, rfl⟩ | ⟨h3, h4⟩
    · exact absurd rfl hne
    · rw [Inj.put_same] at hB; cases hB
      rw [Inj.put_ne _ _ h3] at hB'
      have := r.blk a' B' hB'
      simp only; omega
    · rw [Inj.put_same] at hB'; cases hB'
      rw [Inj.put_ne _ _ h1] at hB
      have := r.blk a B hB
      simp only; omega
    · rw [Inj.put_ne _ _ h1] at hB
      rw [Inj.put_ne _ _ h3] at hB'
      exact r'.sep a a' o1 o2 B B' h2 h4 hne ho hl2 hB hB'
  · intro a o1 B h ho hB
    rcases look a o1 h with ⟨rfl, rfl⟩ | ⟨h1, h2⟩
    · rw [Inj.put_same] at hB; cases hB
      have := r.base_le
      simp only; omega
    · rw [Inj.put_ne _ _ h1] at hB
      exact r'.own a o1 B h2 ho hB
  · intro a ha
    simp only [St.next_bump, St.next_set] at ha
    obtain ⟨g1, g2⟩ := r'.next a (by omega)
    rw [St.get_bump, St.get_set_ne _ _ (by omega), Inj.put_ne _ _ (by omega)]
    exact ⟨g1, g2⟩
  · intro a B hB
    by_cases e : a = s.next
    · subst e; rw [Inj.put_same] at hB; cases hB; exact hlt
    · rw [Inj.put_ne _ _ e] at hB; exact r'.blk a B hB
  · exact r'.base_le
  · intro a ha _ g1
    rw [St.get_bump, St.get_set_ne _ _ (by omega), Inj.put_ne _ _ (by omega)]
    exact ⟨g1, id⟩
  · intro a o1 B h hl1 hB hlt1
    rcases look a o1 h with ⟨rfl, rfl⟩ | ⟨h1, h2⟩
    · rw [Inj.put_same] at hB; cases hB
      simp only at hlt1; omega
    · rw [Inj.put_ne _ _ h1] at hB
      exact ⟨a, o1, B, h2, hl1, fun h => h, hB, rfl⟩
end
end Go.Ev
