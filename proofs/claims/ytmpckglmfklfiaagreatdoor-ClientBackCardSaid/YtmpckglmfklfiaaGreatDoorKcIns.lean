/-
  slices.Insert at rows of []byte, walked: what it does, told by what append and copy do.
-/
import Derived.Test.YtmpckglmfklfiaaGreatDoorChecked
import Derived.Test.YtmpckglmfklfiaaGreatDoorEvPart3
import Derived.Shelf.Spec.SlicesInsertGrow
set_option linter.unusedVariables false
set_option linter.unusedSimpArgs false
namespace Go.Proofs.YtmpckglmfklfiaaGreatDoor
open Go Go.RowKit Go.Lib
set_option maxHeartbeats 2000000 in
set_option maxRecDepth 100000 in
theorem ins_nil (vb voff m vc : Nat) (w w1 : World) (v' : Value) (hm : 0 < m)
    (hrun : (Builtin.append_ #[131, 131] 131 #[.slice none 0 0, .slice (some ⟨vb, voff, none⟩) m vc]).run Tryz.prog w = .ok v' w1) :
    Calls Tryz.prog 287 #[.slice none 0 0, .int .i64 (0 : Nat), .slice (some ⟨vb, voff, none⟩) m vc] w fun e w' => e = .returned v' ∧ w' = w1 := by
  have hz1 : ¬ ((m : Int) = 0) := by omega
  go_enter Tryz.func287, Tryz.ntmps287
  go_wp2_with (at_builtin; refine Lib.wpList_append_run _ rfl _ _ _ _ rfl _ _ rfl rfl _ _ hrun ?_)
  go_ret
  exact ⟨rfl, rfl⟩
set_option maxHeartbeats 2000000 in
set_option maxRecDepth 100000 in
theorem ins_end (a : Addr) (n c vb voff m vc : Nat) (w w1 : World) (v' : Value) (hm : 0 < m) (hnc : n ≤ c)
    (hrun : (Builtin.append_ #[131, 131] 131 #[.slice (some a) n c, .slice (some ⟨vb, voff, none⟩) m vc]).run Tryz.prog w = .ok v' w1) :
    Calls Tryz.prog 287 #[.slice (some a) n c, .int .i64 n, .slice (some ⟨vb, voff, none⟩) m vc] w fun e w' => e = .returned v' ∧ w' = w1 := by
  obtain ⟨ab, ao, asp⟩ := a
  have hz1 : ¬ ((m : Int) = 0) := by omega
  go_enter Tryz.func287, Tryz.ntmps287
  go_wp2_with (at_builtin; refine Lib.wpList_append_run _ rfl _ _ _ _ rfl _ _ rfl rfl _ _ hrun ?_)
  all_goals (go_ret; exact ⟨rfl, rfl⟩)
set_option maxHeartbeats 4000000 in
set_option maxRecDepth 100000 in
theorem ins_shift (b off n c i vb voff m vc : Nat) (w W1 W2 : World) (hi : i < n) (hm : 0 < m) (hroom : n + m ≤ c) (h63 : n + m ≤ 9223372036854775807)
    (hov : ∀ lb cb, (callFunc 352 #[.slice (some ⟨vb, voff, none⟩) m vc, .slice (some ⟨b, off + (i + m), none⟩) lb cb]).run Tryz.prog w = .ok (.value (.bool false)) w)
    (hcp1 : ∀ ty dc sc, (Builtin.copy_ #[131, 131] ty #[.slice (some ⟨b, off + (i + m), none⟩) (n + m - (i + m)) dc, .slice (some ⟨b, off + i, none⟩) (n + m - i) sc]).run Tryz.prog w.drew = .ok (goInt (n - i : Nat)) W1)
    (hcp2 : ∀ ty dc, (Builtin.copy_ #[131, 131] ty #[.slice (some ⟨b, off + i, none⟩) (n + m - i) dc, .slice (some ⟨vb, voff, none⟩) m vc]).run Tryz.prog W1 = .ok (goInt m) W2) :
    Calls Tryz.prog 287 #[.slice (some ⟨b, off, none⟩) n c, .int .i64 i, .slice (some ⟨vb, voff, none⟩) m vc] w fun e w' => e = .returned (.slice (some ⟨b, off, none⟩) (n + m) c) ∧ w' = W2 := by
  have hz1 : ¬ ((m : Int) = 0) := by omega
  have hz2 : ¬ ((i : Int) = (n : Int)) := by omega
  have hw1 : IntKind.i64.wrap ((i : Int) + (m : Int)) = (i : Int) + (m : Int) := by rw [IntKind.wrap_i64]; omega
  have hb1 : (0 : Int) ≤ (i : Int) + (m : Int) := by omega
  have hin : i ≤ n := by omega
  have htn : ((i : Int) + (m : Int)).toNat = i + m := by omega
  have hb2 : ¬ (c = i + m) := by omega
  have hb3 : (i : Int) ≤ (n : Int) + (m : Int) := by omega
  have hb4 : ¬ (c = i) := by omega
  have mixed : Tryz.prog.follows .mixedOrders = true := by kernel_rfl
  go_enter Tryz.func287, Tryz.ntmps287
  go_wp2_with (simp only [hov])
  go_region_law_o (refine step_copy_runI rfl _ _ 131 131 rfl _ _ (by simp [Act.eval, Act.put]) (by simp [Act.eval, Act.put]) (hcp1 _ _ _) ?_)
  go_wp2_with (at_builtin; refine wpList_copy_runI _ rfl _ _ 131 131 rfl _ _ rfl rfl (hcp2 _ _) ?_)
  go_ret
  exact ⟨rfl, rfl⟩
set_option maxHeartbeats 4000000 in
set_option maxRecDepth 100000 in
theorem ins_grow (b off n c i vb voff m vc nb G : Nat) (w W1 W2 W3 : World) (hi : i < n) (hm : 0 < m) (hnc : n ≤ c) (hroom : c < n + m) (h63 : n + m ≤ 9223372036854775807) (hG : n + m ≤ G)
    (hap : ∀ ty, (Builtin.append_ #[131, 3] ty #[.slice (some ⟨b, off, none⟩) i c, .int .i64 ((n : Int) + (m : Int) - (i : Int))]).run Tryz.prog w = .ok (.slice (some ⟨nb, 0, none⟩) (n + m) G) W1)
    (hcp1 : ∀ ty dc, (Builtin.copy_ #[131, 131] ty #[.slice (some ⟨nb, i, none⟩) (n + m - i) dc, .slice (some ⟨vb, voff, none⟩) m vc]).run Tryz.prog W1 = .ok (goInt m) W2)
    (hcp2 : ∀ ty dc sc, (Builtin.copy_ #[131, 131] ty #[.slice (some ⟨nb, i + m, none⟩) (n + m - (i + m)) dc, .slice (some ⟨b, off + i, none⟩) (n - i) sc]).run Tryz.prog W2.drew = .ok (goInt (n - i : Nat)) W3) :
    Calls Tryz.prog 287 #[.slice (some ⟨b, off, none⟩) n c, .int .i64 i, .slice (some ⟨vb, voff, none⟩) m vc] w fun e w' => e = .returned (.slice (some ⟨nb, 0, none⟩) (n + m) G) ∧ w' = W3 := by
  have hz1 : ¬ ((m : Int) = 0) := by omega
  have hz2 : ¬ ((i : Int) = (n : Int)) := by omega
  have hz3 : (c : Int) < (n : Int) + (m : Int) := by omega
  have hGi : ¬ (G = i) := by omega
  have hGim : ¬ (G = i + m) := by omega
  have hci : ¬ (c = i) := by omega
  have hw1 : IntKind.i64.wrap ((i : Int) + (m : Int)) = (i : Int) + (m : Int) := by rw [IntKind.wrap_i64]; omega
  have hb1 : (0 : Int) ≤ (i : Int) + (m : Int) := by omega
  have hin : i ≤ n := by omega
  have htn : ((i : Int) + (m : Int)).toNat = i + m := by omega
  have hb3 : (i : Int) ≤ (n : Int) := by omega
  have mixed : Tryz.prog.follows .mixedOrders = true := by kernel_rfl
  go_enter Tryz.func287, Tryz.ntmps287
  go_wp2_with (first
    | (at_builtin; refine Lib.wpList_append_run _ rfl _ _ _ _ rfl _ _ rfl rfl _ _ (hap _) ?_)
    | (at_builtin; refine wpList_copy_runI _ rfl _ _ 131 131 rfl _ _ rfl rfl (hcp1 _ _) ?_))
  go_region_law_o (refine step_copy_runI rfl _ _ 131 131 rfl (.slice (some ⟨nb, i + m, none⟩) (n + m - (i + m)) (G - (i + m))) (.slice (some ⟨b, off + i, none⟩) (n - i) (c - i)) (by simp [Act.eval, Act.put]) (by simp [Act.eval, Act.put]) (hcp2 3 (G - (i + m)) (c - i)) ?_)
  go_wp2
  go_ret
  exact ⟨rfl, rfl⟩
theorem insertOverl (w : World) (a b : Addr) (la ca lb cb : Nat) (tA tB : TypeId) (kA kB : Nat) (hne : a.block ≠ b.block) (ha : w.shape? a.block = some (tA, kA)) (hb : w.shape? b.block = some (tB, kB)) (hk : kB ≠ 0) (hf : w.frozen? a = false) (he : w.frozen? ⟨a.block, kA, none⟩ = false) :
    (callFunc 352 #[.slice (some a) la ca, .slice (some b) lb cb]).run Tryz.prog w = .ok (.value (.bool false)) w := by
  rw [run_callFunc_extern Tryz.func352 (by kernel_rfl) (by kernel_rfl) (by kernel_rfl) (e := Extern.SlicesOverlaps.overlaps #[131, 131] #[4]) (by kernel_rfl),
    Lib.run_overlaps_apart w 131 4 26 Tryz.underlying131 1 (fun w => Tryz.sizeOf26 w) a b la ca lb cb hne tA tB kA kB ha hb hk hf he]
  rfl
theorem inserts : Ev.Inserts Tryz.prog 287 352 131 3 where
  enters := fun args w => Tryz.call287 ⟨args⟩ w
  overl := insertOverl
  nil := ins_nil
  end_ := ins_end
  shift := ins_shift
  grow := ins_grow
theorem isPrim_ins : Ev.IsPrim Tryz.prog 287 (Ev.pInsert (Ev.tag 26 1) 24) :=
  Ev.isPrim_insert (z := .slice none 0 0) inserts Tryz.underlying131 Tryz.underlying3 (by kernel_rfl) (by kernel_rfl) (by kernel_rfl) rfl (by decide)
end Go.Proofs.YtmpckglmfklfiaaGreatDoor
