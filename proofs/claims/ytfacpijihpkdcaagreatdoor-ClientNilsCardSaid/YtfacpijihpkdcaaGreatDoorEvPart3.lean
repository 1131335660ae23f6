/-
  A machine that runs the program's code, and that what it does the model does; part 3.
  EvSum: octet.Sum: the sum of bytes, each turned in: one step.
  EvHot: Small functions that are called often, each as one step: nil or zero disks and stores, equal bytes.
  EvSeg: A long run, in parts: the machine runs some steps of a function, and what it has then is written out.
  EvInsert: slices.Insert: what it does at once is what its code does, whatever the capacity.
  EvShaped: A law's row out of its calls, where the world's shape is asked for too.
  EvArg: An argument of several cells: what its cells are; a block of which nothing is known.
-/
import Derived.Test.YtfacpijihpkdcaaGreatDoorEvPart2
import Derived.Lib.AppendZerosOnto
import Derived.Laws.AppendOwn
import Derived.WalkKit
import Derived.ProofKit
import Derived.OpenShut
import Derived.ShutString
import Derived.ChangeOld
import Derived.Below
import Derived.SizedLaws
import Derived.LaidMore
import Derived.Lay
import Derived.Stop.Joined
set_option linter.unusedVariables false
set_option linter.unusedSimpArgs false
namespace Go.Ev
noncomputable section

def sumStep (acc c : Nat) : Nat := Nat.add (Nat.mod (Nat.mul (Nat.mod (Nat.add acc c) 65536) 2) 65536) (Nat.div (Nat.mod (Nat.add acc c) 65536) 32768)
def sumL (l : List UInt8) : Nat → Nat := List.rec (motive := fun _ => Nat → Nat) (fun acc => acc) (fun c _ go acc => go (sumStep acc c.toNat)) l
def sumOf (l : List UInt8) : Int := cnd (Nat.beq (sumL l 0) 0) 65535 (Int.ofNat (sumL l 0))
/-- A byte as it stands. -/
def byteX (v : Value) : Option UInt8 := ob (asInt v) fun a => must (kEq a.1 .u8) (must (fits .u8 a.2) (some (UInt8.ofNat a.2.toNat)))
def pSum : Prim := args1 fun x s => ob (asSl x) fun p => Option.rec (must (Nat.beq p.2.1 0) (some (num (sumOf []), s))) (fun a => must (Nat.ble p.2.1 1000000) (ob (s.row a p.2.1) fun l => om (optL byteX l) fun l => (num (sumOf l), s))) p.1

def sumCode : CFunc := ⟨26,
 (.seq
 (.region 0 [⟨(some 2), .mov (.c (.int .i64 0)), none, 0, []⟩])
 (.seq
 (.region 0 [⟨(some 3), .mov (.c (.int .u16 0)), none, 0, []⟩])
 (.seq
 (.seq
  (.region 0 [⟨(some 6), .mov (.t 0), none, 0, []⟩,
      ⟨(some 7), .lenV (.t 6), none, 1, []⟩,
      ⟨(some 8), .mov (.c (.int .i64 0)), none, 2, []⟩])
  (.block 0
   (.loop
     (.seq
      (.region 0 [⟨(some 9), .bin .lss (.t 8) (.t 7), none, 0, []⟩])
      (.seq
      (.cond (.t 9)
        (.skip)
        (.exit 0))
      (.seq
      (.block 1
        (.seq
         (.region 0 [⟨(some 10), .iaddrV 1 (.t 6) (.t 8), none, 0, []⟩,
             ⟨(some 11), .load1 (.t 10), none, 1, []⟩,
             ⟨(some 5), .mov (.t 11), none, 2, []⟩])
         (.seq
         (.region 0 [⟨(some 12), .mov (.t 3), none, 0, []⟩,
             ⟨(some 13), .mov (.t 5), none, 1, []⟩,
             ⟨(some 14), .convI .u16 (.t 13), none, 2, []⟩,
             ⟨(some 15), .bin .add (.t 12) (.t 14), none, 3, []⟩,
             ⟨(some 3), .mov (.t 15), none, 4, []⟩])
         (.region 0 [⟨(some 16), .mov (.t 3), none, 0, []⟩,
            ⟨(some 17), .bin .shl (.t 16) (.c (.int .u64 1)), none, 1, []⟩,
            ⟨(some 18), .mov (.t 3), none, 2, []⟩,
            ⟨(some 19), .bin .shr (.t 18) (.c (.int .u64 15)), none, 3, []⟩,
            ⟨(some 20), .bin .or (.t 17) (.t 19), none, 4, []⟩,
            ⟨(some 3), .mov (.t 20), none, 5, []⟩]))))
      (.region 0 [⟨(some 21), .bin .add (.t 8) (.c (.int .i64 1)), none, 0, []⟩,
         ⟨(some 8), .mov (.t 21), none, 1, []⟩])))))))
 (.seq
 (.seq
  (.region 0 [⟨(some 22), .mov (.t 3), none, 0, []⟩,
      ⟨(some 23), .bin .eql (.t 22) (.c (.int .u16 0)), none, 1, []⟩])
  (.cond (.t 23)
   (.seq
    (.region 0 [⟨(some 2), .mov (.c (.int .i64 65535)), none, 0, []⟩])
    (.ret))
   (.skip)))
 (.seq
 (.region 0 [⟨(some 24), .mov (.t 3), none, 0, []⟩,
     ⟨(some 25), .convI .i64 (.t 24), none, 1, []⟩,
     ⟨(some 2), .mov (.t 25), none, 2, []⟩])
 (.ret)))))),
 [.tmp 2]⟩

theorem sumStep_lt (acc c : Nat) : sumStep acc c < 65536 := by
  show (acc + c) % 65536 * 2 % 65536 + (acc + c) % 65536 / 32768 < 65536
  omega
theorem sumL_cons (c : UInt8) (l : List UInt8) (acc : Nat) : sumL (c :: l) acc = sumL l (sumStep acc c.toNat) := rfl
theorem sumL_lt : ∀ (l : List UInt8) (acc : Nat), acc < 65536 → sumL l acc < 65536
  | [], _, h => h
  | c :: l, acc, _ => by rw [sumL_cons]; exact sumL_lt l _ (sumStep_lt _ _)

theorem fits_u16 {n : Int} (h1 : 0 ≤ n) (h2 : n ≤ 65535) : fits .u16 n = true := by
  show Bool.rec false (iLe n 65535) (iLe 0 n) = true
  rw [iLe_eq, iLe_eq, decide_eq_true h1, decide_eq_true h2]
theorem wr_u16 (n : Nat) : wr .u16 (n : Int) = ((n % 65536 : Nat) : Int) := by
  unfold wr
  rw [cnd_eq]
  split
  · rename_i h
    have h : (Bool.rec false (iLe (n : Int) 65535) (iLe 0 (n : Int)) : Bool) = true := h
    rw [iLe_eq, iLe_eq, show decide ((0 : Int) ≤ (n : Int)) = true from by simp] at h
    have h : decide ((n : Int) ≤ 65535) = true := h
    rw [decide_eq_true_eq] at h
    rw [Nat.mod_eq_of_lt (by omega)]
  · show ((BitVec.ofInt 16 n).toNat : Int) = _
    rw [BitVec.toNat_ofInt]
    omega
/-- A turn to the left by one, of sixteen bits. -/
theorem turn_u16 (x : Nat) (hx : x < 65536) : binOp .or (.int .u16 ((x * 2 % 65536 : Nat) : Int)) (.int .u16 ((x / 32768 : Nat) : Int)) = some (.int .u16 ((x * 2 % 65536 + x / 32768 : Nat) : Int)) := by
  rw [bin_int rfl]
  show some (Value.int .u16 (wr .u16 ((BitVec.ofInt 16 _ ||| BitVec.ofInt 16 _).toNat : Int))) = _
  congr 2
  have e : (BitVec.ofInt 16 ((x * 2 % 65536 : Nat) : Int) ||| BitVec.ofInt 16 ((x / 32768 : Nat) : Int)).toNat = x * 2 % 65536 + x / 32768 := by
    rw [BitVec.toNat_or, BitVec.toNat_ofInt, BitVec.toNat_ofInt]
    have h1 : ((((x * 2 % 65536 : Nat) : Int)) % ((2 ^ 16 : Nat) : Int)).toNat = x * 2 % 65536 := by omega
    have h2 : ((((x / 32768 : Nat) : Int)) % ((2 ^ 16 : Nat) : Int)).toNat = x / 32768 := by omega
    rw [h1, h2]
    have h3 : x * 2 % 65536 = 2 * (x % 32768) := by omega
    have h4 : x / 32768 < 2 := by omega
    rw [h3]
    have h5 := Nat.two_pow_add_eq_or_of_lt (i := 1) (b := x / 32768) (by omega) (x % 32768)
    rw [show 2 ^ 1 * (x % 32768) = 2 * (x % 32768) from rfl] at h5
    exact h5.symm
  rw [e, wr_u16, Nat.mod_eq_of_lt (by omega)]
theorem shl_u16 (x : Nat) : binOp .shl (.int .u16 (x : Int)) (.int .u64 1) = some (.int .u16 ((x * 2 % 65536 : Nat) : Int)) := by
  show some (Value.int .u16 (wr .u16 ((x : Int) * 2))) = _
  rw [show ((x : Int) * 2) = ((x * 2 : Nat) : Int) from by omega, wr_u16]
theorem shr_u16 (x : Nat) : binOp .shr (.int .u16 (x : Int)) (.int .u64 15) = some (.int .u16 ((x / 32768 : Nat) : Int)) := by
  show some (Value.int .u16 ((x : Int).fdiv 32768)) = _
  rw [Int.fdiv_eq_ediv_of_nonneg _ (by omega)]
  rfl

/-- A round. -/
def sumBody : CCode := (.seq
      (.region 0 [⟨(some 9), .bin .lss (.t 8) (.t 7), none, 0, []⟩])
      (.seq
      (.cond (.t 9)
        (.skip)
        (.exit 0))
      (.seq
      (.block 1
        (.seq
         (.region 0 [⟨(some 10), .iaddrV 1 (.t 6) (.t 8), none, 0, []⟩,
             ⟨(some 11), .load1 (.t 10), none, 1, []⟩,
             ⟨(some 5), .mov (.t 11), none, 2, []⟩])
         (.seq
         (.region 0 [⟨(some 12), .mov (.t 3), none, 0, []⟩,
             ⟨(some 13), .mov (.t 5), none, 1, []⟩,
             ⟨(some 14), .convI .u16 (.t 13), none, 2, []⟩,
             ⟨(some 15), .bin .add (.t 12) (.t 14), none, 3, []⟩,
             ⟨(some 3), .mov (.t 15), none, 4, []⟩])
         (.region 0 [⟨(some 16), .mov (.t 3), none, 0, []⟩,
            ⟨(some 17), .bin .shl (.t 16) (.c (.int .u64 1)), none, 1, []⟩,
            ⟨(some 18), .mov (.t 3), none, 2, []⟩,
            ⟨(some 19), .bin .shr (.t 18) (.c (.int .u64 15)), none, 3, []⟩,
            ⟨(some 20), .bin .or (.t 17) (.t 19), none, 4, []⟩,
            ⟨(some 3), .mov (.t 20), none, 5, []⟩]))))
      (.region 0 [⟨(some 21), .bin .add (.t 8) (.c (.int .i64 1)), none, 0, []⟩,
         ⟨(some 8), .mov (.t 21), none, 1, []⟩]))))

theorem sum_loop {E : Env} {s : St} {pa : Option Addr} {c0 : Nat} {cs : List UInt8} (hrow : ∀ i (h : i < cs.length), ∃ a, pa = some a ∧ s.cell (a.add i) = some (ofByte cs[i])) (hn : cs.length ≤ 9223372036854775806) {Q : Ex → Fr → St → Prop} (hq : ∀ fr, fr.get 3 = some (.int .u16 (sumL cs 0 : Nat)) → Q (.exit 0) fr s) :
    ∀ (k : Nat) (fr : Fr) (s' : St), (s' = s ∧ ∃ i acc : Nat, k = cs.length - i ∧ i ≤ cs.length ∧ acc < 65536 ∧ sumL (cs.drop i) acc = sumL cs 0 ∧ fr.get 3 = some (.int .u16 (acc : Nat)) ∧ fr.get 6 = some (.slice pa cs.length c0) ∧ fr.get 7 = some (.int .i64 (cs.length : Nat)) ∧ fr.get 8 = some (.int .i64 (i : Nat))) → W E (.loop sumBody) fr s' Q := by
  refine W_inv _ ?_
  rintro k fr s' ⟨rfl, i, acc, rfl, hi, hacc, hsum, h3, h6, h7, h8⟩
  unfold sumBody
  refine W_seq (W_region (by simp only [skip_zero, ops_plain, ops_nil, ev_t, ev_c, orUndef_some, putD_some, putD_none, Tr.get_set, Nat.reduceEqDiff, if_true, if_false, Nat.mul_one, ob_some, om_some, evL_nil, evL_cons, evP_nil, evP_cons, evO_none, evO_some, st_mov, st_pick, st_bin, st_un, st_eqBool, st_eqNil, st_convI, st_convSB, st_convBS, st_same, st_box, st_alloc, st_build, st_buildSlice, st_load1, st_loadN, st_store, st_nilCheck, st_iface, st_mkFunc, st_mkSlice, st_sliceS, st_sliceV, st_faddr, st_iaddrA, st_iaddrV, st_fieldV, st_idxS, st_extract, st_lenC, st_lenS, st_lenV, st_append, st_callF, st_callV, asInt_int, asStr_strOf, asBool_bool, asPtr_pointer, asAddr_pointer, asAgg_agg, asTup_tuple, asSl_slice, asNat_int, cnd_true, cnd_false, must_true, tf_false, tf_true, bin_lss, bin_gtr, bin_leq, bin_geq, bin_eqlI, bin_neqI, bin_add, bin_sub, bin_mul, bin_eqlS, bin_neqS, un_not, num_int, ofByte_int, ptr_pointer, sl_slice, h7, h8]; rfl) ?_)
  by_cases hlt : i < cs.length
  · refine W_seq (W_cond (x := true) (by simp only [skip_zero, ops_plain, ops_nil, ev_t, ev_c, orUndef_some, putD_some, putD_none, Tr.get_set, Nat.reduceEqDiff, if_true, if_false, Nat.mul_one, ob_some, om_some, evL_nil, evL_cons, evP_nil, evP_cons, evO_none, evO_some, st_mov, st_pick, st_bin, st_un, st_eqBool, st_eqNil, st_convI, st_convSB, st_convBS, st_same, st_box, st_alloc, st_build, st_buildSlice, st_load1, st_loadN, st_store, st_nilCheck, st_iface, st_mkFunc, st_mkSlice, st_sliceS, st_sliceV, st_faddr, st_iaddrA, st_iaddrV, st_fieldV, st_idxS, st_extract, st_lenC, st_lenS, st_lenV, st_append, st_callF, st_callV, asInt_int, asStr_strOf, asBool_bool, asPtr_pointer, asAddr_pointer, asAgg_agg, asTup_tuple, asSl_slice, asNat_int, cnd_true, cnd_false, must_true, tf_false, tf_true, bin_lss, bin_gtr, bin_leq, bin_geq, bin_eqlI, bin_neqI, bin_add, bin_sub, bin_mul, bin_eqlS, bin_neqS, un_not, num_int, ofByte_int, ptr_pointer, sl_slice]; simp; omega) ?_)
    refine W_skip ?_
    obtain ⟨a, rfl, hc⟩ := hrow i hlt
    have hblt : Nat.blt i cs.length = true := by rw [Nat.blt_eq]; exact hlt
    refine W_seq (W_block (W_seq (W_region (by simp only [skip_zero, ops_plain, ops_nil, ev_t, ev_c, orUndef_some, putD_some, putD_none, Tr.get_set, Nat.reduceEqDiff, if_true, if_false, Nat.mul_one, ob_some, om_some, evL_nil, evL_cons, evP_nil, evP_cons, evO_none, evO_some, st_mov, st_pick, st_bin, st_un, st_eqBool, st_eqNil, st_convI, st_convSB, st_convBS, st_same, st_box, st_alloc, st_build, st_buildSlice, st_load1, st_loadN, st_store, st_nilCheck, st_iface, st_mkFunc, st_mkSlice, st_sliceS, st_sliceV, st_faddr, st_iaddrA, st_iaddrV, st_fieldV, st_idxS, st_extract, st_lenC, st_lenS, st_lenV, st_append, st_callF, st_callV, asInt_int, asStr_strOf, asBool_bool, asPtr_pointer, asAddr_pointer, asAgg_agg, asTup_tuple, asSl_slice, asNat_int, cnd_true, cnd_false, must_true, tf_false, tf_true, bin_lss, bin_gtr, bin_leq, bin_geq, bin_eqlI, bin_neqI, bin_add, bin_sub, bin_mul, bin_eqlS, bin_neqS, un_not, num_int, ofByte_int, ptr_pointer, sl_slice, h6, h8, hblt, hc]; rfl) ?_)))
    have e1 : wr .u16 ((cs[i].toNat : Nat) : Int) = ((cs[i].toNat : Nat) : Int) := by
      rw [wr_u16, Nat.mod_eq_of_lt (by have := cs[i].toNat_lt; omega)]
    have e2 : wr .u16 ((acc : Int) + ((cs[i].toNat : Nat) : Int)) = (((acc + cs[i].toNat) % 65536 : Nat) : Int) := by
      rw [show (acc : Int) + ((cs[i].toNat : Nat) : Int) = ((acc + cs[i].toNat : Nat) : Int) from by omega, wr_u16]
    refine W_seq (W_region (by simp only [skip_zero, ops_plain, ops_nil, ev_t, ev_c, orUndef_some, putD_some, putD_none, Tr.get_set, Nat.reduceEqDiff, if_true, if_false, Nat.mul_one, ob_some, om_some, evL_nil, evL_cons, evP_nil, evP_cons, evO_none, evO_some, st_mov, st_pick, st_bin, st_un, st_eqBool, st_eqNil, st_convI, st_convSB, st_convBS, st_same, st_box, st_alloc, st_build, st_buildSlice, st_load1, st_loadN, st_store, st_nilCheck, st_iface, st_mkFunc, st_mkSlice, st_sliceS, st_sliceV, st_faddr, st_iaddrA, st_iaddrV, st_fieldV, st_idxS, st_extract, st_lenC, st_lenS, st_lenV, st_append, st_callF, st_callV, asInt_int, asStr_strOf, asBool_bool, asPtr_pointer, asAddr_pointer, asAgg_agg, asTup_tuple, asSl_slice, asNat_int, cnd_true, cnd_false, must_true, tf_false, tf_true, bin_lss, bin_gtr, bin_leq, bin_geq, bin_eqlI, bin_neqI, bin_add, bin_sub, bin_mul, bin_eqlS, bin_neqS, un_not, num_int, ofByte_int, ptr_pointer, sl_slice, h3, e1, e2]; rfl) ?_)
    have e3 := shl_u16 ((acc + cs[i].toNat) % 65536)
    have e4 := shr_u16 ((acc + cs[i].toNat) % 65536)
    have e5 := turn_u16 ((acc + cs[i].toNat) % 65536) (by omega)
    refine W_region (by simp only [skip_zero, ops_plain, ops_nil, ev_t, ev_c, orUndef_some, putD_some, putD_none, Tr.get_set, Nat.reduceEqDiff, if_true, if_false, Nat.mul_one, ob_some, om_some, evL_nil, evL_cons, evP_nil, evP_cons, evO_none, evO_some, st_mov, st_pick, st_bin, st_un, st_eqBool, st_eqNil, st_convI, st_convSB, st_convBS, st_same, st_box, st_alloc, st_build, st_buildSlice, st_load1, st_loadN, st_store, st_nilCheck, st_iface, st_mkFunc, st_mkSlice, st_sliceS, st_sliceV, st_faddr, st_iaddrA, st_iaddrV, st_fieldV, st_idxS, st_extract, st_lenC, st_lenS, st_lenV, st_append, st_callF, st_callV, asInt_int, asStr_strOf, asBool_bool, asPtr_pointer, asAddr_pointer, asAgg_agg, asTup_tuple, asSl_slice, asNat_int, cnd_true, cnd_false, must_true, tf_false, tf_true, bin_lss, bin_gtr, bin_leq, bin_geq, bin_eqlI, bin_neqI, bin_add, bin_sub, bin_mul, bin_eqlS, bin_neqS, un_not, num_int, ofByte_int, ptr_pointer, sl_slice, e3, e4, e5]; rfl) ?_
    have e6 : wr .i64 ((i : Int) + 1) = ((i + 1 : Nat) : Int) := by rw [wr_i64 (by omega) (by omega)]; omega
    refine W_region (by simp only [skip_zero, ops_plain, ops_nil, ev_t, ev_c, orUndef_some, putD_some, putD_none, Tr.get_set, Nat.reduceEqDiff, if_true, if_false, Nat.mul_one, ob_some, om_some, evL_nil, evL_cons, evP_nil, evP_cons, evO_none, evO_some, st_mov, st_pick, st_bin, st_un, st_eqBool, st_eqNil, st_convI, st_convSB, st_convBS, st_same, st_box, st_alloc, st_build, st_buildSlice, st_load1, st_loadN, st_store, st_nilCheck, st_iface, st_mkFunc, st_mkSlice, st_sliceS, st_sliceV, st_faddr, st_iaddrA, st_iaddrV, st_fieldV, st_idxS, st_extract, st_lenC, st_lenS, st_lenV, st_append, st_callF, st_callV, asInt_int, asStr_strOf, asBool_bool, asPtr_pointer, asAddr_pointer, asAgg_agg, asTup_tuple, asSl_slice, asNat_int, cnd_true, cnd_false, must_true, tf_false, tf_true, bin_lss, bin_gtr, bin_leq, bin_geq, bin_eqlI, bin_neqI, bin_add, bin_sub, bin_mul, bin_eqlS, bin_neqS, un_not, num_int, ofByte_int, ptr_pointer, sl_slice, h8, e6]; rfl) ?_
    refine ⟨cs.length - (i + 1), by omega, rfl, i + 1, sumStep acc cs[i].toNat, rfl, by omega, sumStep_lt _ _, ?_, ?_, ?_, ?_, ?_⟩
    · rw [← hsum, List.drop_eq_getElem_cons hlt, sumL_cons]
    all_goals simp only [skip_zero, ops_plain, ops_nil, ev_t, ev_c, orUndef_some, putD_some, putD_none, Tr.get_set, Nat.reduceEqDiff, if_true, if_false, Nat.mul_one, ob_some, om_some, evL_nil, evL_cons, evP_nil, evP_cons, evO_none, evO_some, st_mov, st_pick, st_bin, st_un, st_eqBool, st_eqNil, st_convI, st_convSB, st_convBS, st_same, st_box, st_alloc, st_build, st_buildSlice, st_load1, st_loadN, st_store, st_nilCheck, st_iface, st_mkFunc, st_mkSlice, st_sliceS, st_sliceV, st_faddr, st_iaddrA, st_iaddrV, st_fieldV, st_idxS, st_extract, st_lenC, st_lenS, st_lenV, st_append, st_callF, st_callV, asInt_int, asStr_strOf, asBool_bool, asPtr_pointer, asAddr_pointer, asAgg_agg, asTup_tuple, asSl_slice, asNat_int, cnd_true, cnd_false, must_true, tf_false, tf_true, bin_lss, bin_gtr, bin_leq, bin_geq, bin_eqlI, bin_neqI, bin_add, bin_sub, bin_mul, bin_eqlS, bin_neqS, un_not, num_int, ofByte_int, ptr_pointer, sl_slice, h6, h7]; try rfl
  · refine W_seq (W_cond (x := false) (by simp only [skip_zero, ops_plain, ops_nil, ev_t, ev_c, orUndef_some, putD_some, putD_none, Tr.get_set, Nat.reduceEqDiff, if_true, if_false, Nat.mul_one, ob_some, om_some, evL_nil, evL_cons, evP_nil, evP_cons, evO_none, evO_some, st_mov, st_pick, st_bin, st_un, st_eqBool, st_eqNil, st_convI, st_convSB, st_convBS, st_same, st_box, st_alloc, st_build, st_buildSlice, st_load1, st_loadN, st_store, st_nilCheck, st_iface, st_mkFunc, st_mkSlice, st_sliceS, st_sliceV, st_faddr, st_iaddrA, st_iaddrV, st_fieldV, st_idxS, st_extract, st_lenC, st_lenS, st_lenV, st_append, st_callF, st_callV, asInt_int, asStr_strOf, asBool_bool, asPtr_pointer, asAddr_pointer, asAgg_agg, asTup_tuple, asSl_slice, asNat_int, cnd_true, cnd_false, must_true, tf_false, tf_true, bin_lss, bin_gtr, bin_leq, bin_geq, bin_eqlI, bin_neqI, bin_add, bin_sub, bin_mul, bin_eqlS, bin_neqS, un_not, num_int, ofByte_int, ptr_pointer, sl_slice]; simp; omega) ?_)
    refine W_exit (hq _ ?_)
    have : i = cs.length := by omega
    subst this
    rw [List.drop_length] at hsum
    simp only [skip_zero, ops_plain, ops_nil, ev_t, ev_c, orUndef_some, putD_some, putD_none, Tr.get_set, Nat.reduceEqDiff, if_true, if_false, Nat.mul_one, ob_some, om_some, evL_nil, evL_cons, evP_nil, evP_cons, evO_none, evO_some, st_mov, st_pick, st_bin, st_un, st_eqBool, st_eqNil, st_convI, st_convSB, st_convBS, st_same, st_box, st_alloc, st_build, st_buildSlice, st_load1, st_loadN, st_store, st_nilCheck, st_iface, st_mkFunc, st_mkSlice, st_sliceS, st_sliceV, st_faddr, st_iaddrA, st_iaddrV, st_fieldV, st_idxS, st_extract, st_lenC, st_lenS, st_lenV, st_append, st_callF, st_callV, asInt_int, asStr_strOf, asBool_bool, asPtr_pointer, asAddr_pointer, asAgg_agg, asTup_tuple, asSl_slice, asNat_int, cnd_true, cnd_false, must_true, tf_false, tf_true, bin_lss, bin_gtr, bin_leq, bin_geq, bin_eqlI, bin_neqI, bin_add, bin_sub, bin_mul, bin_eqlS, bin_neqS, un_not, num_int, ofByte_int, ptr_pointer, sl_slice, h3]
    rw [← hsum]; rfl

theorem byteX_eq {v : Value} {c : UInt8} (h : byteX v = some c) : v = ofByte c := by
  obtain ⟨a, h1, h2⟩ := ob_eq.1 h
  obtain ⟨h3, h4⟩ := must_eq.1 h2
  obtain ⟨h5, h6⟩ := must_eq.1 h4
  rw [kEq_eq] at h3
  have h3 : a.1 = .u8 := by simpa using h3
  have h5 : (Bool.rec false (iLe a.2 255) (iLe 0 a.2) : Bool) = true := h5
  rw [iLe_eq, iLe_eq] at h5
  cases h6
  rw [asInt_eq h1, h3]
  by_cases h7 : 0 ≤ a.2
  · rw [decide_eq_true h7] at h5
    have h8 : a.2 ≤ 255 := of_decide_eq_true h5
    show Value.int .u8 a.2 = .int .u8 ((UInt8.ofNat a.2.toNat).toNat : Int)
    congr 1
    rw [UInt8.toNat_ofNat']
    omega
  · rw [decide_eq_false h7] at h5; cases h5
theorem bytesX {l : List Value} {b : List UInt8} (h : optL byteX l = some b) : l = b.map ofByte := by
  induction l generalizing b with
  | nil => cases h; rfl
  | cons v l ih =>
    rw [optL_cons] at h
    obtain ⟨c, h1, h2⟩ := ob_eq.1 h
    obtain ⟨b2, h3, rfl⟩ := om_eq.1 h2
    rw [List.map_cons, ih h3, ← byteX_eq h1]

theorem sum_run {E : Env} {f : FuncId} (hf : E.code f = some sumCode) {s : St} {pa : Option Addr} {c0 : Nat} {cs : List UInt8} (hrow : ∀ i (h : i < cs.length), ∃ a, pa = some a ∧ s.cell (a.add i) = some (ofByte cs[i])) (hn : cs.length ≤ 9223372036854775806) :
    Cv E f [.slice pa cs.length c0] s fun v s' => s' = s ∧ v = num (sumOf cs) := by
  refine Cv_of hf ?_
  have h0 : (Tr.ofList (.e : Fr) 0 [Value.slice pa cs.length c0]).get 0 = some (.slice pa cs.length c0) := rfl
  generalize (Tr.ofList (.e : Fr) 0 [Value.slice pa cs.length c0]) = fr0 at h0
  unfold sumCode
  refine W_seq (W_region (by simp only [skip_zero, ops_plain, ops_nil, ev_t, ev_c, orUndef_some, putD_some, putD_none, Tr.get_set, Nat.reduceEqDiff, if_true, if_false, Nat.mul_one, ob_some, om_some, evL_nil, evL_cons, evP_nil, evP_cons, evO_none, evO_some, st_mov, st_pick, st_bin, st_un, st_eqBool, st_eqNil, st_convI, st_convSB, st_convBS, st_same, st_box, st_alloc, st_build, st_buildSlice, st_load1, st_loadN, st_store, st_nilCheck, st_iface, st_mkFunc, st_mkSlice, st_sliceS, st_sliceV, st_faddr, st_iaddrA, st_iaddrV, st_fieldV, st_idxS, st_extract, st_lenC, st_lenS, st_lenV, st_append, st_callF, st_callV, asInt_int, asStr_strOf, asBool_bool, asPtr_pointer, asAddr_pointer, asAgg_agg, asTup_tuple, asSl_slice, asNat_int, cnd_true, cnd_false, must_true, tf_false, tf_true, bin_lss, bin_gtr, bin_leq, bin_geq, bin_eqlI, bin_neqI, bin_add, bin_sub, bin_mul, bin_eqlS, bin_neqS, un_not, num_int, ofByte_int, ptr_pointer, sl_slice]; rfl) ?_)
  refine W_seq (W_region (by simp only [skip_zero, ops_plain, ops_nil, ev_t, ev_c, orUndef_some, putD_some, putD_none, Tr.get_set, Nat.reduceEqDiff, if_true, if_false, Nat.mul_one, ob_some, om_some, evL_nil, evL_cons, evP_nil, evP_cons, evO_none, evO_some, st_mov, st_pick, st_bin, st_un, st_eqBool, st_eqNil, st_convI, st_convSB, st_convBS, st_same, st_box, st_alloc, st_build, st_buildSlice, st_load1, st_loadN, st_store, st_nilCheck, st_iface, st_mkFunc, st_mkSlice, st_sliceS, st_sliceV, st_faddr, st_iaddrA, st_iaddrV, st_fieldV, st_idxS, st_extract, st_lenC, st_lenS, st_lenV, st_append, st_callF, st_callV, asInt_int, asStr_strOf, asBool_bool, asPtr_pointer, asAddr_pointer, asAgg_agg, asTup_tuple, asSl_slice, asNat_int, cnd_true, cnd_false, must_true, tf_false, tf_true, bin_lss, bin_gtr, bin_leq, bin_geq, bin_eqlI, bin_neqI, bin_add, bin_sub, bin_mul, bin_eqlS, bin_neqS, un_not, num_int, ofByte_int, ptr_pointer, sl_slice]; rfl) ?_)
  refine W_seq (W_seq (W_region (by simp only [skip_zero, ops_plain, ops_nil, ev_t, ev_c, orUndef_some, putD_some, putD_none, Tr.get_set, Nat.reduceEqDiff, if_true, if_false, Nat.mul_one, ob_some, om_some, evL_nil, evL_cons, evP_nil, evP_cons, evO_none, evO_some, st_mov, st_pick, st_bin, st_un, st_eqBool, st_eqNil, st_convI, st_convSB, st_convBS, st_same, st_box, st_alloc, st_build, st_buildSlice, st_load1, st_loadN, st_store, st_nilCheck, st_iface, st_mkFunc, st_mkSlice, st_sliceS, st_sliceV, st_faddr, st_iaddrA, st_iaddrV, st_fieldV, st_idxS, st_extract, st_lenC, st_lenS, st_lenV, st_append, st_callF, st_callV, asInt_int, asStr_strOf, asBool_bool, asPtr_pointer, asAddr_pointer, asAgg_agg, asTup_tuple, asSl_slice, asNat_int, cnd_true, cnd_false, must_true, tf_false, tf_true, bin_lss, bin_gtr, bin_leq, bin_geq, bin_eqlI, bin_neqI, bin_add, bin_sub, bin_mul, bin_eqlS, bin_neqS, un_not, num_int, ofByte_int, ptr_pointer, sl_slice, h0]; rfl) ?_))
  refine W_block (sum_loop (c0 := c0) hrow hn (fun fr h3 => ?_) cs.length _ _ ⟨rfl, 0, 0, by omega, by omega, by omega, by simp, ?_, ?_, ?_, ?_⟩)
  · show W E _ _ _ _
    have hs := sumL_lt cs 0 (by omega)
    refine W_seq (W_seq (W_region (by simp only [skip_zero, ops_plain, ops_nil, ev_t, ev_c, orUndef_some, putD_some, putD_none, Tr.get_set, Nat.reduceEqDiff, if_true, if_false, Nat.mul_one, ob_some, om_some, evL_nil, evL_cons, evP_nil, evP_cons, evO_none, evO_some, st_mov, st_pick, st_bin, st_un, st_eqBool, st_eqNil, st_convI, st_convSB, st_convBS, st_same, st_box, st_alloc, st_build, st_buildSlice, st_load1, st_loadN, st_store, st_nilCheck, st_iface, st_mkFunc, st_mkSlice, st_sliceS, st_sliceV, st_faddr, st_iaddrA, st_iaddrV, st_fieldV, st_idxS, st_extract, st_lenC, st_lenS, st_lenV, st_append, st_callF, st_callV, asInt_int, asStr_strOf, asBool_bool, asPtr_pointer, asAddr_pointer, asAgg_agg, asTup_tuple, asSl_slice, asNat_int, cnd_true, cnd_false, must_true, tf_false, tf_true, bin_lss, bin_gtr, bin_leq, bin_geq, bin_eqlI, bin_neqI, bin_add, bin_sub, bin_mul, bin_eqlS, bin_neqS, un_not, num_int, ofByte_int, ptr_pointer, sl_slice, h3]; rfl) ?_))
    by_cases hz : sumL cs 0 = 0
    · refine W_cond (x := true) (by simp only [skip_zero, ops_plain, ops_nil, ev_t, ev_c, orUndef_some, putD_some, putD_none, Tr.get_set, Nat.reduceEqDiff, if_true, if_false, Nat.mul_one, ob_some, om_some, evL_nil, evL_cons, evP_nil, evP_cons, evO_none, evO_some, st_mov, st_pick, st_bin, st_un, st_eqBool, st_eqNil, st_convI, st_convSB, st_convBS, st_same, st_box, st_alloc, st_build, st_buildSlice, st_load1, st_loadN, st_store, st_nilCheck, st_iface, st_mkFunc, st_mkSlice, st_sliceS, st_sliceV, st_faddr, st_iaddrA, st_iaddrV, st_fieldV, st_idxS, st_extract, st_lenC, st_lenS, st_lenV, st_append, st_callF, st_callV, asInt_int, asStr_strOf, asBool_bool, asPtr_pointer, asAddr_pointer, asAgg_agg, asTup_tuple, asSl_slice, asNat_int, cnd_true, cnd_false, must_true, tf_false, tf_true, bin_lss, bin_gtr, bin_leq, bin_geq, bin_eqlI, bin_neqI, bin_add, bin_sub, bin_mul, bin_eqlS, bin_neqS, un_not, num_int, ofByte_int, ptr_pointer, sl_slice]; simp [hz]) ?_
      refine W_seq (W_region (by simp only [skip_zero, ops_plain, ops_nil, ev_t, ev_c, orUndef_some, putD_some, putD_none, Tr.get_set, Nat.reduceEqDiff, if_true, if_false, Nat.mul_one, ob_some, om_some, evL_nil, evL_cons, evP_nil, evP_cons, evO_none, evO_some, st_mov, st_pick, st_bin, st_un, st_eqBool, st_eqNil, st_convI, st_convSB, st_convBS, st_same, st_box, st_alloc, st_build, st_buildSlice, st_load1, st_loadN, st_store, st_nilCheck, st_iface, st_mkFunc, st_mkSlice, st_sliceS, st_sliceV, st_faddr, st_iaddrA, st_iaddrV, st_fieldV, st_idxS, st_extract, st_lenC, st_lenS, st_lenV, st_append, st_callF, st_callV, asInt_int, asStr_strOf, asBool_bool, asPtr_pointer, asAddr_pointer, asAgg_agg, asTup_tuple, asSl_slice, asNat_int, cnd_true, cnd_false, must_true, tf_false, tf_true, bin_lss, bin_gtr, bin_leq, bin_geq, bin_eqlI, bin_neqI, bin_add, bin_sub, bin_mul, bin_eqlS, bin_neqS, un_not, num_int, ofByte_int, ptr_pointer, sl_slice]; rfl) (W_ret ?_))
      refine ⟨rfl, [_], rfl, rfl, ?_⟩
      simp only [skip_zero, ops_plain, ops_nil, ev_t, ev_c, orUndef_some, putD_some, putD_none, Tr.get_set, Nat.reduceEqDiff, if_true, if_false, Nat.mul_one, ob_some, om_some, evL_nil, evL_cons, evP_nil, evP_cons, evO_none, evO_some, st_mov, st_pick, st_bin, st_un, st_eqBool, st_eqNil, st_convI, st_convSB, st_convBS, st_same, st_box, st_alloc, st_build, st_buildSlice, st_load1, st_loadN, st_store, st_nilCheck, st_iface, st_mkFunc, st_mkSlice, st_sliceS, st_sliceV, st_faddr, st_iaddrA, st_iaddrV, st_fieldV, st_idxS, st_extract, st_lenC, st_lenS, st_lenV, st_append, st_callF, st_callV, asInt_int, asStr_strOf, asBool_bool, asPtr_pointer, asAddr_pointer, asAgg_agg, asTup_tuple, asSl_slice, asNat_int, cnd_true, cnd_false, must_true, tf_false, tf_true, bin_lss, bin_gtr, bin_leq, bin_geq, bin_eqlI, bin_neqI, bin_add, bin_sub, bin_mul, bin_eqlS, bin_neqS, un_not, num_int, ofByte_int, ptr_pointer, sl_slice]
      show num 65535 = _
      unfold sumOf
      rw [hz]; rfl
    · refine W_cond (x := false) (by simp only [skip_zero, ops_plain, ops_nil, ev_t, ev_c, orUndef_some, putD_some, putD_none, Tr.get_set, Nat.reduceEqDiff, if_true, if_false, Nat.mul_one, ob_some, om_some, evL_nil, evL_cons, evP_nil, evP_cons, evO_none, evO_some, st_mov, st_pick, st_bin, st_un, st_eqBool, st_eqNil, st_convI, st_convSB, st_convBS, st_same, st_box, st_alloc, st_build, st_buildSlice, st_load1, st_loadN, st_store, st_nilCheck, st_iface, st_mkFunc, st_mkSlice, st_sliceS, st_sliceV, st_faddr, st_iaddrA, st_iaddrV, st_fieldV, st_idxS, st_extract, st_lenC, st_lenS, st_lenV, st_append, st_callF, st_callV, asInt_int, asStr_strOf, asBool_bool, asPtr_pointer, asAddr_pointer, asAgg_agg, asTup_tuple, asSl_slice, asNat_int, cnd_true, cnd_false, must_true, tf_false, tf_true, bin_lss, bin_gtr, bin_leq, bin_geq, bin_eqlI, bin_neqI, bin_add, bin_sub, bin_mul, bin_eqlS, bin_neqS, un_not, num_int, ofByte_int, ptr_pointer, sl_slice]; simp; omega) ?_
      refine W_skip ?_
      have e1 : wr .i64 ((sumL cs 0 : Nat) : Int) = ((sumL cs 0 : Nat) : Int) := wr_i64 (by omega) (by omega)
      refine W_seq (W_region (by simp only [skip_zero, ops_plain, ops_nil, ev_t, ev_c, orUndef_some, putD_some, putD_none, Tr.get_set, Nat.reduceEqDiff, if_true, if_false, Nat.mul_one, ob_some, om_some, evL_nil, evL_cons, evP_nil, evP_cons, evO_none, evO_some, st_mov, st_pick, st_bin, st_un, st_eqBool, st_eqNil, st_convI, st_convSB, st_convBS, st_same, st_box, st_alloc, st_build, st_buildSlice, st_load1, st_loadN, st_store, st_nilCheck, st_iface, st_mkFunc, st_mkSlice, st_sliceS, st_sliceV, st_faddr, st_iaddrA, st_iaddrV, st_fieldV, st_idxS, st_extract, st_lenC, st_lenS, st_lenV, st_append, st_callF, st_callV, asInt_int, asStr_strOf, asBool_bool, asPtr_pointer, asAddr_pointer, asAgg_agg, asTup_tuple, asSl_slice, asNat_int, cnd_true, cnd_false, must_true, tf_false, tf_true, bin_lss, bin_gtr, bin_leq, bin_geq, bin_eqlI, bin_neqI, bin_add, bin_sub, bin_mul, bin_eqlS, bin_neqS, un_not, num_int, ofByte_int, ptr_pointer, sl_slice, h3, e1]; rfl) (W_ret ?_))
      refine ⟨rfl, [_], rfl, rfl, ?_⟩
      simp only [skip_zero, ops_plain, ops_nil, ev_t, ev_c, orUndef_some, putD_some, putD_none, Tr.get_set, Nat.reduceEqDiff, if_true, if_false, Nat.mul_one, ob_some, om_some, evL_nil, evL_cons, evP_nil, evP_cons, evO_none, evO_some, st_mov, st_pick, st_bin, st_un, st_eqBool, st_eqNil, st_convI, st_convSB, st_convBS, st_same, st_box, st_alloc, st_build, st_buildSlice, st_load1, st_loadN, st_store, st_nilCheck, st_iface, st_mkFunc, st_mkSlice, st_sliceS, st_sliceV, st_faddr, st_iaddrA, st_iaddrV, st_fieldV, st_idxS, st_extract, st_lenC, st_lenS, st_lenV, st_append, st_callF, st_callV, asInt_int, asStr_strOf, asBool_bool, asPtr_pointer, asAddr_pointer, asAgg_agg, asTup_tuple, asSl_slice, asNat_int, cnd_true, cnd_false, must_true, tf_false, tf_true, bin_lss, bin_gtr, bin_leq, bin_geq, bin_eqlI, bin_neqI, bin_add, bin_sub, bin_mul, bin_eqlS, bin_neqS, un_not, num_int, ofByte_int, ptr_pointer, sl_slice]
      show num (sumL cs 0 : Nat) = _
      unfold sumOf
      have : Nat.beq (sumL cs 0) 0 = false := by
        cases e : Nat.beq (sumL cs 0) 0 with
        | false => rfl
        | true => rw [Nat.beq_eq] at e; exact absurd e hz
      rw [this]; rfl
  all_goals simp only [skip_zero, ops_plain, ops_nil, ev_t, ev_c, orUndef_some, putD_some, putD_none, Tr.get_set, Nat.reduceEqDiff, if_true, if_false, Nat.mul_one, ob_some, om_some, evL_nil, evL_cons, evP_nil, evP_cons, evO_none, evO_some, st_mov, st_pick, st_bin, st_un, st_eqBool, st_eqNil, st_convI, st_convSB, st_convBS, st_same, st_box, st_alloc, st_build, st_buildSlice, st_load1, st_loadN, st_store, st_nilCheck, st_iface, st_mkFunc, st_mkSlice, st_sliceS, st_sliceV, st_faddr, st_iaddrA, st_iaddrV, st_fieldV, st_idxS, st_extract, st_lenC, st_lenS, st_lenV, st_append, st_callF, st_callV, asInt_int, asStr_strOf, asBool_bool, asPtr_pointer, asAddr_pointer, asAgg_agg, asTup_tuple, asSl_slice, asNat_int, cnd_true, cnd_false, must_true, tf_false, tf_true, bin_lss, bin_gtr, bin_leq, bin_geq, bin_eqlI, bin_neqI, bin_add, bin_sub, bin_mul, bin_eqlS, bin_neqS, un_not, num_int, ofByte_int, ptr_pointer, sl_slice]; try rfl

/-- The sum is a step by itself. -/
theorem isPrim_sum {P : Program} {E : Env} (hE : EnvOk P E) (hm : P.follows .mixedOrders = true) (hname : namedB P = true) {f : FuncId} (hf : E.code f = some sumCode) : IsPrim P f pSum := by
  refine isPrim_run hE hm hname fun s args v0 s0 hw hcl hp => ?_
  obtain ⟨x, rfl, h1⟩ := args1_eq hp
  obtain ⟨⟨pa, n, c⟩, h2, h3⟩ := ob_eq.1 h1
  rw [asSl_eq h2]
  have fin : ∀ cs : List UInt8, n = cs.length → n ≤ 1000000 → (∀ i (h : i < cs.length), ∃ a, pa = some a ∧ s.cell (a.add i) = some (ofByte cs[i])) → (num (sumOf cs), s) = (v0, s0) → Cv E f [.slice pa n c] s fun v s' => ∃ π, Like s s' s0 π ∧ VL π s0.next v0 v := by
    rintro cs rfl hn hrow heq
    cases heq
    obtain ⟨k, v, s', h4, h5, h6⟩ := sum_run hf (c0 := c) hrow (by omega)
    subst h5; subst h6
    exact ⟨k, _, _, h4, id, Like.same hw, .int _ _⟩
  cases pa with
  | none =>
    obtain ⟨h4, h5⟩ := must_eq.1 (show must (Nat.beq n 0) (some (num (sumOf []), s)) = some (v0, s0) from h3)
    rw [Nat.beq_eq] at h4
    cases h5
    exact fin [] h4 (by omega) (fun i h => by simp at h) rfl
  | some a =>
    obtain ⟨h4, h5⟩ := must_eq.1 (show must (Nat.ble n 1000000) (ob (s.row a n) fun l => om (optL byteX l) fun l => (num (sumOf l), s)) = some (v0, s0) from h3)
    rw [Nat.ble_eq] at h4
    obtain ⟨l, h6, h7⟩ := ob_eq.1 h5
    obtain ⟨cs, h8, h9⟩ := om_eq.1 h7
    have hl := bytesX h8
    have hlen : n = cs.length := by rw [← row_length h6, hl, List.length_map]
    refine fin cs hlen h4 (fun i h => ⟨a, rfl, ?_⟩) h9
    rw [cell_row h6 (by omega), hl, List.getElem?_map, List.getElem?_eq_getElem h]; rfl
end
end Go.Ev

namespace Go.Ev
noncomputable section

def noneSlCode : CFunc := ⟨13,
 (.seq
 (.region 0 ([⟨(some 2), .mov (.c (.bool false)), none, 0, []⟩]))
 (.seq
 (.region 0 ([⟨(some 3), .mov (.t 0), none, 0, []⟩,
     ⟨(some 4), .eqPtr false (.t 3) (.c (.pointer none)), none, 1, []⟩,
     ⟨(some 5), .mov (.t 4), none, 2, []⟩,
     ⟨(some 6), .mov (.t 0), (some ((some 5), false)), 3, []⟩,
     ⟨(some 7), .nilCheck (.t 6), (some ((some 5), false)), 4, []⟩,
     ⟨(some 8), .faddr 0 (.t 7), (some ((some 5), false)), 5, []⟩,
     ⟨(some 9), .load1 (.t 8), (some ((some 5), false)), 6, []⟩,
     ⟨(some 10), .lenV (.t 9), (some ((some 5), false)), 7, []⟩,
     ⟨(some 11), .bin .eql (.t 10) (.c (.int .i64 0)), (some ((some 5), false)), 8, []⟩,
     ⟨(some 12), .pick (.t 5) (.c (.bool true)) (.t 11), none, 9, []⟩,
     ⟨(some 2), .mov (.t 12), none, 10, []⟩]))
 (.ret))),
 [.tmp 2]⟩
def nonePtrCode : CFunc := ⟨12,
 (.seq
 (.region 0 ([⟨(some 2), .mov (.c (.bool false)), none, 0, []⟩]))
 (.seq
 (.region 0 ([⟨(some 3), .mov (.t 0), none, 0, []⟩,
     ⟨(some 4), .eqPtr false (.t 3) (.c (.pointer none)), none, 1, []⟩,
     ⟨(some 5), .mov (.t 4), none, 2, []⟩,
     ⟨(some 6), .mov (.t 0), (some ((some 5), false)), 3, []⟩,
     ⟨(some 7), .nilCheck (.t 6), (some ((some 5), false)), 4, []⟩,
     ⟨(some 8), .faddr 0 (.t 7), (some ((some 5), false)), 5, []⟩,
     ⟨(some 9), .load1 (.t 8), (some ((some 5), false)), 6, []⟩,
     ⟨(some 10), .eqPtr false (.t 9) (.c (.pointer none)), (some ((some 5), false)), 7, []⟩,
     ⟨(some 11), .pick (.t 5) (.c (.bool true)) (.t 10), none, 8, []⟩,
     ⟨(some 2), .mov (.t 11), none, 9, []⟩]))
 (.ret))),
 [.tmp 2]⟩
def equalCode : CFunc := ⟨10,
 (.seq
 (.region 0 ([⟨(some 4), .mov (.c (.bool false)), none, 0, []⟩]))
 (.seq
 (.region 0 ([⟨(some 5), .mov (.t 0), none, 0, []⟩,
     ⟨(some 6), .convBS (.t 5), none, 1, []⟩,
     ⟨(some 7), .mov (.t 1), none, 2, []⟩,
     ⟨(some 8), .convBS (.t 7), none, 3, []⟩,
     ⟨(some 9), .bin .eql (.t 6) (.t 8), none, 4, []⟩,
     ⟨(some 4), .mov (.t 9), none, 5, []⟩]))
 (.ret))),
 [.tmp 4]⟩

/-- Is a pointer nil, or the slice that it leads to empty? -/
def pNoneSl : Prim := args1 fun x s => ob (asPtr x) fun a => Option.rec (some (.bool true, s)) (fun a => ob (s.cell a) fun v => om (asSl v) fun p => (.bool (Nat.beq p.2.1 0), s)) a
/-- Is a pointer nil, or the pointer that it leads to? -/
def pNonePtr : Prim := args1 fun x s => ob (asPtr x) fun a => Option.rec (some (.bool true, s)) (fun a => ob (s.cell a) fun v => om (asPtr v) fun p => (.bool p.isNone, s)) a
/-- A byte's number. -/
def u8N (v : Value) : Option Nat := ob (asInt v) fun a => must (kEq a.1 .u8) (must (fits .u8 a.2) (some a.2.toNat))
def allU8 (l : List Value) : Option Bool := om (optL u8N l) fun _ => false
def eqU8 (x y : List Value) : Option Bool :=
  List.rec (motive := fun _ => List Value → Option Bool) (fun y => List.casesOn y (some true) (fun b y => allU8 (b :: y))) (fun a l go y => List.casesOn y (allU8 (a :: l)) (fun b y => ob (u8N a) fun m => ob (u8N b) fun n => om (go y) fun r => cnd (Nat.beq m n) r false)) x y
/-- Are two rows of bytes the same? -/
def pEqual : Prim := args2 fun x y s => ob (asSl x) fun p => ob (asSl y) fun q => ob (s.elems 1 x p.2.1) fun l => ob (s.elems 1 y q.2.1) fun m => om (eqU8 l m) fun b => (.bool b, s)

theorem add_zero (a : Addr) : a.add 0 = a := rfl
theorem noneSl_run {E : Env} {f : FuncId} (hf : E.code f = some noneSlCode) {s : St} {a : Option Addr} {b : Bool} (h : a = none ∧ b = true ∨ ∃ c p n k, a = some c ∧ s.cell c = some (.slice p n k) ∧ b = Nat.beq n 0) : Cv E f [.pointer a] s fun v s' => v = .bool b ∧ s' = s := by
  refine Cv_of hf ?_
  have h0 : (Tr.ofList (.e : Fr) 0 [.pointer a]).get 0 = some (.pointer a) := rfl
  generalize (Tr.ofList (.e : Fr) 0 [.pointer a]) = fr0 at h0
  unfold noneSlCode
  refine W_seq (W_region (by simp only [skip_zero, ops_plain, ops_nil, ev_t, ev_c, orUndef_some, putD_some, putD_none, Tr.get_set, Nat.reduceEqDiff, if_true, if_false, Nat.mul_one, ob_some, om_some, evL_nil, evL_cons, evP_nil, evP_cons, evO_none, evO_some, st_mov, st_pick, st_bin, st_un, st_eqBool, st_eqNil, st_convI, st_convSB, st_convBS, st_same, st_box, st_alloc, st_build, st_buildSlice, st_load1, st_loadN, st_store, st_nilCheck, st_iface, st_mkFunc, st_mkSlice, st_sliceS, st_sliceV, st_faddr, st_iaddrA, st_iaddrV, st_fieldV, st_idxS, st_extract, st_lenC, st_lenS, st_lenV, st_append, st_callF, st_callV, st_capV, st_appendZ, st_eqPtrNil, Option.isNone_none, Option.isNone_some, asInt_int, asStr_strOf, asBool_bool, asPtr_pointer, asAddr_pointer, asAgg_agg, asTup_tuple, asSl_slice, asNat_int, cnd_true, cnd_false, must_true, tf_false, tf_true, bin_lss, bin_gtr, bin_leq, bin_geq, bin_eqlI, bin_neqI, bin_add, bin_sub, bin_mul, bin_eqlS, bin_neqS, un_not, num_int, ofByte_int, ptr_pointer, sl_slice, ops_guard_t, ops_guard_f, wanted_some, wantB_tt, wantB_tf, wantB_ft, wantB_ff, eq_self, Bool.false_eq_true, asStr_string, add_eq, Nat.zero_add, Nat.add_zero]; rfl) ?_)
  rcases h with ⟨rfl, rfl⟩ | ⟨c, p, n, k, rfl, h1, rfl⟩
  · refine W_seq (W_region (by simp only [skip_zero, ops_plain, ops_nil, ev_t, ev_c, orUndef_some, putD_some, putD_none, Tr.get_set, Nat.reduceEqDiff, if_true, if_false, Nat.mul_one, ob_some, om_some, evL_nil, evL_cons, evP_nil, evP_cons, evO_none, evO_some, st_mov, st_pick, st_bin, st_un, st_eqBool, st_eqNil, st_convI, st_convSB, st_convBS, st_same, st_box, st_alloc, st_build, st_buildSlice, st_load1, st_loadN, st_store, st_nilCheck, st_iface, st_mkFunc, st_mkSlice, st_sliceS, st_sliceV, st_faddr, st_iaddrA, st_iaddrV, st_fieldV, st_idxS, st_extract, st_lenC, st_lenS, st_lenV, st_append, st_callF, st_callV, st_capV, st_appendZ, st_eqPtrNil, Option.isNone_none, Option.isNone_some, asInt_int, asStr_strOf, asBool_bool, asPtr_pointer, asAddr_pointer, asAgg_agg, asTup_tuple, asSl_slice, asNat_int, cnd_true, cnd_false, must_true, tf_false, tf_true, bin_lss, bin_gtr, bin_leq, bin_geq, bin_eqlI, bin_neqI, bin_add, bin_sub, bin_mul, bin_eqlS, bin_neqS, un_not, num_int, ofByte_int, ptr_pointer, sl_slice, ops_guard_t, ops_guard_f, wanted_some, wantB_tt, wantB_tf, wantB_ft, wantB_ff, eq_self, Bool.false_eq_true, asStr_string, add_eq, Nat.zero_add, Nat.add_zero, h0]; rfl) (W_ret ⟨rfl, [_], rfl, ?_, rfl⟩))
    simp only [skip_zero, ops_plain, ops_nil, ev_t, ev_c, orUndef_some, putD_some, putD_none, Tr.get_set, Nat.reduceEqDiff, if_true, if_false, Nat.mul_one, ob_some, om_some, evL_nil, evL_cons, evP_nil, evP_cons, evO_none, evO_some, st_mov, st_pick, st_bin, st_un, st_eqBool, st_eqNil, st_convI, st_convSB, st_convBS, st_same, st_box, st_alloc, st_build, st_buildSlice, st_load1, st_loadN, st_store, st_nilCheck, st_iface, st_mkFunc, st_mkSlice, st_sliceS, st_sliceV, st_faddr, st_iaddrA, st_iaddrV, st_fieldV, st_idxS, st_extract, st_lenC, st_lenS, st_lenV, st_append, st_callF, st_callV, st_capV, st_appendZ, st_eqPtrNil, Option.isNone_none, Option.isNone_some, asInt_int, asStr_strOf, asBool_bool, asPtr_pointer, asAddr_pointer, asAgg_agg, asTup_tuple, asSl_slice, asNat_int, cnd_true, cnd_false, must_true, tf_false, tf_true, bin_lss, bin_gtr, bin_leq, bin_geq, bin_eqlI, bin_neqI, bin_add, bin_sub, bin_mul, bin_eqlS, bin_neqS, un_not, num_int, ofByte_int, ptr_pointer, sl_slice, ops_guard_t, ops_guard_f, wanted_some, wantB_tt, wantB_tf, wantB_ft, wantB_ff, eq_self, Bool.false_eq_true, asStr_string, add_eq, Nat.zero_add, Nat.add_zero, tupled]
  · have e2 : nilOk (.pointer (some c)) = true := rfl
    have e3 : decide (Int.ofNat n = 0) = Nat.beq n 0 := by
      cases e : Nat.beq n 0 with
      | true => rw [Nat.beq_eq] at e; simp [e]
      | false => simp; intro h; subst h; cases e
    refine W_seq (W_region (by simp only [skip_zero, ops_plain, ops_nil, ev_t, ev_c, orUndef_some, putD_some, putD_none, Tr.get_set, Nat.reduceEqDiff, if_true, if_false, Nat.mul_one, ob_some, om_some, evL_nil, evL_cons, evP_nil, evP_cons, evO_none, evO_some, st_mov, st_pick, st_bin, st_un, st_eqBool, st_eqNil, st_convI, st_convSB, st_convBS, st_same, st_box, st_alloc, st_build, st_buildSlice, st_load1, st_loadN, st_store, st_nilCheck, st_iface, st_mkFunc, st_mkSlice, st_sliceS, st_sliceV, st_faddr, st_iaddrA, st_iaddrV, st_fieldV, st_idxS, st_extract, st_lenC, st_lenS, st_lenV, st_append, st_callF, st_callV, st_capV, st_appendZ, st_eqPtrNil, Option.isNone_none, Option.isNone_some, asInt_int, asStr_strOf, asBool_bool, asPtr_pointer, asAddr_pointer, asAgg_agg, asTup_tuple, asSl_slice, asNat_int, cnd_true, cnd_false, must_true, tf_false, tf_true, bin_lss, bin_gtr, bin_leq, bin_geq, bin_eqlI, bin_neqI, bin_add, bin_sub, bin_mul, bin_eqlS, bin_neqS, un_not, num_int, ofByte_int, ptr_pointer, sl_slice, ops_guard_t, ops_guard_f, wanted_some, wantB_tt, wantB_tf, wantB_ft, wantB_ff, eq_self, Bool.false_eq_true, asStr_string, add_eq, Nat.zero_add, Nat.add_zero, h0, e2, add_zero, h1, e3]; rfl) (W_ret ⟨rfl, [_], rfl, ?_, rfl⟩))
    simp only [skip_zero, ops_plain, ops_nil, ev_t, ev_c, orUndef_some, putD_some, putD_none, Tr.get_set, Nat.reduceEqDiff, if_true, if_false, Nat.mul_one, ob_some, om_some, evL_nil, evL_cons, evP_nil, evP_cons, evO_none, evO_some, st_mov, st_pick, st_bin, st_un, st_eqBool, st_eqNil, st_convI, st_convSB, st_convBS, st_same, st_box, st_alloc, st_build, st_buildSlice, st_load1, st_loadN, st_store, st_nilCheck, st_iface, st_mkFunc, st_mkSlice, st_sliceS, st_sliceV, st_faddr, st_iaddrA, st_iaddrV, st_fieldV, st_idxS, st_extract, st_lenC, st_lenS, st_lenV, st_append, st_callF, st_callV, st_capV, st_appendZ, st_eqPtrNil, Option.isNone_none, Option.isNone_some, asInt_int, asStr_strOf, asBool_bool, asPtr_pointer, asAddr_pointer, asAgg_agg, asTup_tuple, asSl_slice, asNat_int, cnd_true, cnd_false, must_true, tf_false, tf_true, bin_lss, bin_gtr, bin_leq, bin_geq, bin_eqlI, bin_neqI, bin_add, bin_sub, bin_mul, bin_eqlS, bin_neqS, un_not, num_int, ofByte_int, ptr_pointer, sl_slice, ops_guard_t, ops_guard_f, wanted_some, wantB_tt, wantB_tf, wantB_ft, wantB_ff, eq_self, Bool.false_eq_true, asStr_string, add_eq, Nat.zero_add, Nat.add_zero, tupled]
theorem nonePtr_run {E : Env} {f : FuncId} (hf : E.code f = some nonePtrCode) {s : St} {a : Option Addr} {b : Bool} (h : a = none ∧ b = true ∨ ∃ c p, a = some c ∧ s.cell c = some (.pointer p) ∧ b = p.isNone) : Cv E f [.pointer a] s fun v s' => v = .bool b ∧ s' = s := by
  refine Cv_of hf ?_
  have h0 : (Tr.ofList (.e : Fr) 0 [.pointer a]).get 0 = some (.pointer a) := rfl
  generalize (Tr.ofList (.e : Fr) 0 [.pointer a]) = fr0 at h0
  unfold nonePtrCode
  refine W_seq (W_region (by simp only [skip_zero, ops_plain, ops_nil, ev_t, ev_c, orUndef_some, putD_some, putD_none, Tr.get_set, Nat.reduceEqDiff, if_true, if_false, Nat.mul_one, ob_some, om_some, evL_nil, evL_cons, evP_nil, evP_cons, evO_none, evO_some, st_mov, st_pick, st_bin, st_un, st_eqBool, st_eqNil, st_convI, st_convSB, st_convBS, st_same, st_box, st_alloc, st_build, st_buildSlice, st_load1, st_loadN, st_store, st_nilCheck, st_iface, st_mkFunc, st_mkSlice, st_sliceS, st_sliceV, st_faddr, st_iaddrA, st_iaddrV, st_fieldV, st_idxS, st_extract, st_lenC, st_lenS, st_lenV, st_append, st_callF, st_callV, st_capV, st_appendZ, st_eqPtrNil, Option.isNone_none, Option.isNone_some, asInt_int, asStr_strOf, asBool_bool, asPtr_pointer, asAddr_pointer, asAgg_agg, asTup_tuple, asSl_slice, asNat_int, cnd_true, cnd_false, must_true, tf_false, tf_true, bin_lss, bin_gtr, bin_leq, bin_geq, bin_eqlI, bin_neqI, bin_add, bin_sub, bin_mul, bin_eqlS, bin_neqS, un_not, num_int, ofByte_int, ptr_pointer, sl_slice, ops_guard_t, ops_guard_f, wanted_some, wantB_tt, wantB_tf, wantB_ft, wantB_ff, eq_self, Bool.false_eq_true, asStr_string, add_eq, Nat.zero_add, Nat.add_zero]; rfl) ?_)
  rcases h with ⟨rfl, rfl⟩ | ⟨c, p, rfl, h1, rfl⟩
  · refine W_seq (W_region (by simp only [skip_zero, ops_plain, ops_nil, ev_t, ev_c, orUndef_some, putD_some, putD_none, Tr.get_set, Nat.reduceEqDiff, if_true, if_false, Nat.mul_one, ob_some, om_some, evL_nil, evL_cons, evP_nil, evP_cons, evO_none, evO_some, st_mov, st_pick, st_bin, st_un, st_eqBool, st_eqNil, st_convI, st_convSB, st_convBS, st_same, st_box, st_alloc, st_build, st_buildSlice, st_load1, st_loadN, st_store, st_nilCheck, st_iface, st_mkFunc, st_mkSlice, st_sliceS, st_sliceV, st_faddr, st_iaddrA, st_iaddrV, st_fieldV, st_idxS, st_extract, st_lenC, st_lenS, st_lenV, st_append, st_callF, st_callV, st_capV, st_appendZ, st_eqPtrNil, Option.isNone_none, Option.isNone_some, asInt_int, asStr_strOf, asBool_bool, asPtr_pointer, asAddr_pointer, asAgg_agg, asTup_tuple, asSl_slice, asNat_int, cnd_true, cnd_false, must_true, tf_false, tf_true, bin_lss, bin_gtr, bin_leq, bin_geq, bin_eqlI, bin_neqI, bin_add, bin_sub, bin_mul, bin_eqlS, bin_neqS, un_not, num_int, ofByte_int, ptr_pointer, sl_slice, ops_guard_t, ops_guard_f, wanted_some, wantB_tt, wantB_tf, wantB_ft, wantB_ff, eq_self, Bool.false_eq_true, asStr_string, add_eq, Nat.zero_add, Nat.add_zero, h0]; rfl) (W_ret ⟨rfl, [_], rfl, ?_, rfl⟩))
    simp only [skip_zero, ops_plain, ops_nil, ev_t, ev_c, orUndef_some, putD_some, putD_none, Tr.get_set, Nat.reduceEqDiff, if_true, if_false, Nat.mul_one, ob_some, om_some, evL_nil, evL_cons, evP_nil, evP_cons, evO_none, evO_some, st_mov, st_pick, st_bin, st_un, st_eqBool, st_eqNil, st_convI, st_convSB, st_convBS, st_same, st_box, st_alloc, st_build, st_buildSlice, st_load1, st_loadN, st_store, st_nilCheck, st_iface, st_mkFunc, st_mkSlice, st_sliceS, st_sliceV, st_faddr, st_iaddrA, st_iaddrV, st_fieldV, st_idxS, st_extract, st_lenC, st_lenS, st_lenV, st_append, st_callF, st_callV, st_capV, st_appendZ, st_eqPtrNil, Option.isNone_none, Option.isNone_some, asInt_int, asStr_strOf, asBool_bool, asPtr_pointer, asAddr_pointer, asAgg_agg, asTup_tuple, asSl_slice, asNat_int, cnd_true, cnd_false, must_true, tf_false, tf_true, bin_lss, bin_gtr, bin_leq, bin_geq, bin_eqlI, bin_neqI, bin_add, bin_sub, bin_mul, bin_eqlS, bin_neqS, un_not, num_int, ofByte_int, ptr_pointer, sl_slice, ops_guard_t, ops_guard_f, wanted_some, wantB_tt, wantB_tf, wantB_ft, wantB_ff, eq_self, Bool.false_eq_true, asStr_string, add_eq, Nat.zero_add, Nat.add_zero, tupled]
  · have e2 : nilOk (.pointer (some c)) = true := rfl
    refine W_seq (W_region (by simp only [skip_zero, ops_plain, ops_nil, ev_t, ev_c, orUndef_some, putD_some, putD_none, Tr.get_set, Nat.reduceEqDiff, if_true, if_false, Nat.mul_one, ob_some, om_some, evL_nil, evL_cons, evP_nil, evP_cons, evO_none, evO_some, st_mov, st_pick, st_bin, st_un, st_eqBool, st_eqNil, st_convI, st_convSB, st_convBS, st_same, st_box, st_alloc, st_build, st_buildSlice, st_load1, st_loadN, st_store, st_nilCheck, st_iface, st_mkFunc, st_mkSlice, st_sliceS, st_sliceV, st_faddr, st_iaddrA, st_iaddrV, st_fieldV, st_idxS, st_extract, st_lenC, st_lenS, st_lenV, st_append, st_callF, st_callV, st_capV, st_appendZ, st_eqPtrNil, Option.isNone_none, Option.isNone_some, asInt_int, asStr_strOf, asBool_bool, asPtr_pointer, asAddr_pointer, asAgg_agg, asTup_tuple, asSl_slice, asNat_int, cnd_true, cnd_false, must_true, tf_false, tf_true, bin_lss, bin_gtr, bin_leq, bin_geq, bin_eqlI, bin_neqI, bin_add, bin_sub, bin_mul, bin_eqlS, bin_neqS, un_not, num_int, ofByte_int, ptr_pointer, sl_slice, ops_guard_t, ops_guard_f, wanted_some, wantB_tt, wantB_tf, wantB_ft, wantB_ff, eq_self, Bool.false_eq_true, asStr_string, add_eq, Nat.zero_add, Nat.add_zero, h0, e2, add_zero, h1]; rfl) (W_ret ⟨rfl, [_], rfl, ?_, rfl⟩))
    simp only [skip_zero, ops_plain, ops_nil, ev_t, ev_c, orUndef_some, putD_some, putD_none, Tr.get_set, Nat.reduceEqDiff, if_true, if_false, Nat.mul_one, ob_some, om_some, evL_nil, evL_cons, evP_nil, evP_cons, evO_none, evO_some, st_mov, st_pick, st_bin, st_un, st_eqBool, st_eqNil, st_convI, st_convSB, st_convBS, st_same, st_box, st_alloc, st_build, st_buildSlice, st_load1, st_loadN, st_store, st_nilCheck, st_iface, st_mkFunc, st_mkSlice, st_sliceS, st_sliceV, st_faddr, st_iaddrA, st_iaddrV, st_fieldV, st_idxS, st_extract, st_lenC, st_lenS, st_lenV, st_append, st_callF, st_callV, st_capV, st_appendZ, st_eqPtrNil, Option.isNone_none, Option.isNone_some, asInt_int, asStr_strOf, asBool_bool, asPtr_pointer, asAddr_pointer, asAgg_agg, asTup_tuple, asSl_slice, asNat_int, cnd_true, cnd_false, must_true, tf_false, tf_true, bin_lss, bin_gtr, bin_leq, bin_geq, bin_eqlI, bin_neqI, bin_add, bin_sub, bin_mul, bin_eqlS, bin_neqS, un_not, num_int, ofByte_int, ptr_pointer, sl_slice, ops_guard_t, ops_guard_f, wanted_some, wantB_tt, wantB_tf, wantB_ft, wantB_ff, eq_self, Bool.false_eq_true, asStr_string, add_eq, Nat.zero_add, Nat.add_zero, tupled]

theorem u8N_eq {v : Value} {n : Nat} (h : u8N v = some n) : v = ofByte (UInt8.ofNat n) ∧ n < 256 := by
  obtain ⟨a, h1, h2⟩ := ob_eq.1 h
  obtain ⟨h3, h4⟩ := must_eq.1 h2
  obtain ⟨h5, h6⟩ := must_eq.1 h4
  rw [kEq_eq] at h3
  have h3 : a.1 = .u8 := by simpa using h3
  have h5 : (Bool.rec false (iLe a.2 255) (iLe 0 a.2) : Bool) = true := h5
  rw [iLe_eq, iLe_eq] at h5
  cases h6
  rw [asInt_eq h1, h3]
  by_cases h7 : 0 ≤ a.2
  · rw [decide_eq_true h7] at h5
    have h8 : a.2 ≤ 255 := of_decide_eq_true h5
    refine ⟨?_, by omega⟩
    show Value.int .u8 a.2 = .int .u8 ((UInt8.ofNat a.2.toNat).toNat : Int)
    congr 1
    rw [UInt8.toNat_ofNat']
    omega
  · rw [decide_eq_false h7] at h5; cases h5
theorem allU8_eq : ∀ {x : List Value} {b : Bool}, allU8 x = some b → b = false ∧ ∃ l : List UInt8, x = l.map ofByte := by
  intro x b h
  obtain ⟨l, h1, rfl⟩ := om_eq.1 h
  refine ⟨rfl, ?_⟩
  clear h
  induction x generalizing l with
  | nil => exact ⟨[], rfl⟩
  | cons v x ih =>
    rw [optL_cons] at h1
    obtain ⟨n, h2, h3⟩ := ob_eq.1 h1
    obtain ⟨m, h4, h5⟩ := om_eq.1 h3
    obtain ⟨k, rfl⟩ := ih m h4
    exact ⟨UInt8.ofNat n :: k, by rw [List.map_cons, ← (u8N_eq h2).1]⟩
theorem eqU8_eq : ∀ {x y : List Value} {b : Bool}, eqU8 x y = some b → ∃ l m : List UInt8, x = l.map ofByte ∧ y = m.map ofByte ∧ b = decide (l = m)
  | [], [], b, h => by cases h; exact ⟨[], [], rfl, rfl, rfl⟩
  | [], w :: y, b, h => by
    obtain ⟨rfl, l, hl⟩ := allU8_eq (x := w :: y) (b := b) h
    refine ⟨[], l, rfl, hl, ?_⟩
    cases l with
    | nil => cases hl
    | cons _ _ => simp
  | v :: x, [], b, h => by
    obtain ⟨rfl, l, hl⟩ := allU8_eq (x := v :: x) (b := b) h
    refine ⟨l, [], hl, rfl, ?_⟩
    cases l with
    | nil => cases hl
    | cons _ _ => simp
  | v :: x, w :: y, b, h => by
    obtain ⟨m, h1, h2⟩ := ob_eq.1 (show ob (u8N v) (fun m => ob (u8N w) fun n => om (eqU8 x y) fun r => cnd (Nat.beq m n) r false) = some b from h)
    obtain ⟨n, h3, h4⟩ := ob_eq.1 h2
    obtain ⟨r, h5, h6⟩ := om_eq.1 h4
    obtain ⟨l1, m1, rfl, rfl, rfl⟩ := eqU8_eq h5
    obtain ⟨rfl, g1⟩ := u8N_eq h1
    obtain ⟨rfl, g2⟩ := u8N_eq h3
    refine ⟨UInt8.ofNat m :: l1, UInt8.ofNat n :: m1, rfl, rfl, ?_⟩
    rw [← h6]
    have hinj : UInt8.ofNat m = UInt8.ofNat n ↔ m = n := by
      constructor
      · intro h
        have := congrArg UInt8.toNat h
        rw [UInt8.toNat_ofNat', UInt8.toNat_ofNat'] at this
        omega
      · rintro rfl; rfl
    cases e : Nat.beq m n with
    | true => rw [Nat.beq_eq] at e; subst e; simp [cnd]
    | false =>
      have : m ≠ n := fun k => by subst k; rw [Nat.beq_refl] at e; cases e
      simp [cnd, hinj, this]
theorem equal_run {E : Env} {f : FuncId} (hf : E.code f = some equalCode) {s : St} {x y : Value} {p q : Option Addr × Nat × Nat} {l m : List UInt8} (hx : asSl x = some p) (hy : asSl y = some q) (h1 : s.elems 1 x p.2.1 = some (l.map ofByte)) (h2 : s.elems 1 y q.2.1 = some (m.map ofByte)) : Cv E f [x, y] s fun v s' => v = .bool (decide (l = m)) ∧ s' = s := by
  refine Cv_of hf ?_
  have k0 : (Tr.ofList (.e : Fr) 0 [x, y]).get 0 = some x := rfl
  have k1 : (Tr.ofList (.e : Fr) 0 [x, y]).get 1 = some y := rfl
  generalize (Tr.ofList (.e : Fr) 0 [x, y]) = fr0 at k0 k1
  unfold equalCode
  refine W_seq (W_region (by simp only [skip_zero, ops_plain, ops_nil, ev_t, ev_c, orUndef_some, putD_some, putD_none, Tr.get_set, Nat.reduceEqDiff, if_true, if_false, Nat.mul_one, ob_some, om_some, evL_nil, evL_cons, evP_nil, evP_cons, evO_none, evO_some, st_mov, st_pick, st_bin, st_un, st_eqBool, st_eqNil, st_convI, st_convSB, st_convBS, st_same, st_box, st_alloc, st_build, st_buildSlice, st_load1, st_loadN, st_store, st_nilCheck, st_iface, st_mkFunc, st_mkSlice, st_sliceS, st_sliceV, st_faddr, st_iaddrA, st_iaddrV, st_fieldV, st_idxS, st_extract, st_lenC, st_lenS, st_lenV, st_append, st_callF, st_callV, st_capV, st_appendZ, st_eqPtrNil, Option.isNone_none, Option.isNone_some, asInt_int, asStr_strOf, asBool_bool, asPtr_pointer, asAddr_pointer, asAgg_agg, asTup_tuple, asSl_slice, asNat_int, cnd_true, cnd_false, must_true, tf_false, tf_true, bin_lss, bin_gtr, bin_leq, bin_geq, bin_eqlI, bin_neqI, bin_add, bin_sub, bin_mul, bin_eqlS, bin_neqS, un_not, num_int, ofByte_int, ptr_pointer, sl_slice, ops_guard_t, ops_guard_f, wanted_some, wantB_tt, wantB_tf, wantB_ft, wantB_ff, eq_self, Bool.false_eq_true, asStr_string, add_eq, Nat.zero_add, Nat.add_zero]; rfl) ?_)
  refine W_seq (W_region (by simp only [skip_zero, ops_plain, ops_nil, ev_t, ev_c, orUndef_some, putD_some, putD_none, Tr.get_set, Nat.reduceEqDiff, if_true, if_false, Nat.mul_one, ob_some, om_some, evL_nil, evL_cons, evP_nil, evP_cons, evO_none, evO_some, st_mov, st_pick, st_bin, st_un, st_eqBool, st_eqNil, st_convI, st_convSB, st_convBS, st_same, st_box, st_alloc, st_build, st_buildSlice, st_load1, st_loadN, st_store, st_nilCheck, st_iface, st_mkFunc, st_mkSlice, st_sliceS, st_sliceV, st_faddr, st_iaddrA, st_iaddrV, st_fieldV, st_idxS, st_extract, st_lenC, st_lenS, st_lenV, st_append, st_callF, st_callV, st_capV, st_appendZ, st_eqPtrNil, Option.isNone_none, Option.isNone_some, asInt_int, asStr_strOf, asBool_bool, asPtr_pointer, asAddr_pointer, asAgg_agg, asTup_tuple, asSl_slice, asNat_int, cnd_true, cnd_false, must_true, tf_false, tf_true, bin_lss, bin_gtr, bin_leq, bin_geq, bin_eqlI, bin_neqI, bin_add, bin_sub, bin_mul, bin_eqlS, bin_neqS, un_not, num_int, ofByte_int, ptr_pointer, sl_slice, ops_guard_t, ops_guard_f, wanted_some, wantB_tt, wantB_tf, wantB_ft, wantB_ff, eq_self, Bool.false_eq_true, asStr_string, add_eq, Nat.zero_add, Nat.add_zero, k0, k1, hx, hy, h1, h2, optByte_of]; rfl) (W_ret ⟨rfl, [_], rfl, ?_, rfl⟩))
  simp only [skip_zero, ops_plain, ops_nil, ev_t, ev_c, orUndef_some, putD_some, putD_none, Tr.get_set, Nat.reduceEqDiff, if_true, if_false, Nat.mul_one, ob_some, om_some, evL_nil, evL_cons, evP_nil, evP_cons, evO_none, evO_some, st_mov, st_pick, st_bin, st_un, st_eqBool, st_eqNil, st_convI, st_convSB, st_convBS, st_same, st_box, st_alloc, st_build, st_buildSlice, st_load1, st_loadN, st_store, st_nilCheck, st_iface, st_mkFunc, st_mkSlice, st_sliceS, st_sliceV, st_faddr, st_iaddrA, st_iaddrV, st_fieldV, st_idxS, st_extract, st_lenC, st_lenS, st_lenV, st_append, st_callF, st_callV, st_capV, st_appendZ, st_eqPtrNil, Option.isNone_none, Option.isNone_some, asInt_int, asStr_strOf, asBool_bool, asPtr_pointer, asAddr_pointer, asAgg_agg, asTup_tuple, asSl_slice, asNat_int, cnd_true, cnd_false, must_true, tf_false, tf_true, bin_lss, bin_gtr, bin_leq, bin_geq, bin_eqlI, bin_neqI, bin_add, bin_sub, bin_mul, bin_eqlS, bin_neqS, un_not, num_int, ofByte_int, ptr_pointer, sl_slice, ops_guard_t, ops_guard_f, wanted_some, wantB_tt, wantB_tf, wantB_ft, wantB_ff, eq_self, Bool.false_eq_true, asStr_string, add_eq, Nat.zero_add, Nat.add_zero, tupled]

section
variable {P : Program} {E : Env} {f : FuncId}
theorem isPrim_still (hE : EnvOk P E) (hm : P.follows .mixedOrders = true) (hname : namedB P = true) {p : Prim} (h : ∀ args s v s', p args s = some (v, s') → (∃ b, v = .bool b) ∧ s' = s ∧ Cv E f args s fun u t => u = v ∧ t = s) : IsPrim P f p := by
  refine isPrim_run hE hm hname fun s args v0 s0 hw hcl hp => ?_
  obtain ⟨⟨b, rfl⟩, h2, h3⟩ := h args s v0 s0 hp
  refine h3.mono fun u t ⟨e1, e2⟩ => ?_
  rw [e1, e2, h2]
  exact ⟨id, Like.same hw, .bool _⟩
theorem isPrim_noneSl (hE : EnvOk P E) (hm : P.follows .mixedOrders = true) (hname : namedB P = true) (hf : E.code f = some noneSlCode) : IsPrim P f pNoneSl := by
  refine isPrim_still hE hm hname fun args s v s' hp => ?_
  obtain ⟨x, rfl, h1⟩ := args1_eq hp
  obtain ⟨a, h2, h3⟩ := ob_eq.1 h1
  rw [asPtr_eq h2]
  cases a with
  | none =>
    have h3 : some (Value.bool true, s) = some (v, s') := h3
    cases h3
    exact ⟨⟨_, rfl⟩, rfl, noneSl_run hf (.inl ⟨rfl, rfl⟩)⟩
  | some a =>
    obtain ⟨c, h4, h5⟩ := ob_eq.1 (show ob (s.cell a) (fun v => om (asSl v) fun p => (Value.bool (Nat.beq p.2.1 0), s)) = some (v, s') from h3)
    obtain ⟨p, h6, h7⟩ := om_eq.1 h5
    cases h7
    exact ⟨⟨_, rfl⟩, rfl, noneSl_run hf (.inr ⟨a, p.1, p.2.1, p.2.2, rfl, by rw [h4, asSl_eq h6], rfl⟩)⟩
theorem isPrim_nonePtr (hE : EnvOk P E) (hm : P.follows .mixedOrders = true) (hname : namedB P = true) (hf : E.code f = some nonePtrCode) : IsPrim P f pNonePtr := by
  refine isPrim_still hE hm hname fun args s v s' hp => ?_
  obtain ⟨x, rfl, h1⟩ := args1_eq hp
  obtain ⟨a, h2, h3⟩ := ob_eq.1 h1
  rw [asPtr_eq h2]
  cases a with
  | none =>
    have h3 : some (Value.bool true, s) = some (v, s') := h3
    cases h3
    exact ⟨⟨_, rfl⟩, rfl, nonePtr_run hf (.inl ⟨rfl, rfl⟩)⟩
  | some a =>
    obtain ⟨c, h4, h5⟩ := ob_eq.1 (show ob (s.cell a) (fun v => om (asPtr v) fun p => (Value.bool p.isNone, s)) = some (v, s') from h3)
    obtain ⟨p, h6, h7⟩ := om_eq.1 h5
    cases h7
    exact ⟨⟨_, rfl⟩, rfl, nonePtr_run hf (.inr ⟨a, p, rfl, by rw [h4, asPtr_eq h6], rfl⟩)⟩
theorem isPrim_equal (hE : EnvOk P E) (hm : P.follows .mixedOrders = true) (hname : namedB P = true) (hf : E.code f = some equalCode) : IsPrim P f pEqual := by
  refine isPrim_still hE hm hname fun args s v s' hp => ?_
  obtain ⟨x, y, rfl, h1⟩ := args2_eq hp
  obtain ⟨p, h2, h3⟩ := ob_eq.1 h1
  obtain ⟨q, h4, h5⟩ := ob_eq.1 h3
  obtain ⟨l, h6, h7⟩ := ob_eq.1 h5
  obtain ⟨m, h8, h9⟩ := ob_eq.1 h7
  obtain ⟨b, h10, h11⟩ := om_eq.1 h9
  cases h11
  obtain ⟨l', m', rfl, rfl, rfl⟩ := eqU8_eq h10
  exact ⟨⟨_, rfl⟩, rfl, equal_run hf h2 h4 h6 h8⟩
end
end
end Go.Ev

namespace Go.Ev
noncomputable section
def isSeq (c : CCode) : Bool := match c with | .seq _ _ => true | _ => false
def sndN (j : Nat) (c : CCode) : CCode := Nat.rec (motive := fun _ => CCode → CCode) (fun c => c) (fun _ go c => go c.snd) j c
/-- The first steps of a chain of steps. -/
def headC (E : Env) (N j : Nat) : CCode → Fr → St → Option (Fr × St) :=
  Nat.rec (motive := fun _ => CCode → Fr → St → Option (Fr × St)) (fun _ fr s => some (fr, s))
    (fun _ go c fr s => must (isSeq c) (ob (oneL (runC E N c.fst fr s)) fun x => cnd (isNormal x.1) (go c.snd x.2.1 x.2.2) none)) j
/-- Some rounds of a loop. -/
def iterC (E : Env) (N : Nat) (body : CCode) (k : Nat) : Fr → St → Option (Fr × St) :=
  Nat.rec (motive := fun _ => Fr → St → Option (Fr × St)) (fun fr s => some (fr, s))
    (fun _ go fr s => ob (oneL (runC E N body fr s)) fun x => cnd (isNormal x.1) (go x.2.1 x.2.2) none) k
def CCode.inner (c : CCode) : CCode := match c with | .block _ b => b | .loop b => b | _ => .no
section
variable {E : Env} {N : Nat} {fr fr' : Fr} {s s' : St} {Q : Ex → Fr → St → Prop}
theorem one_normal {c : CCode} {g : Fr → St → Option (Fr × St)} {y : Fr × St} (h : ob (oneL (runC E N c fr s)) (fun x => cnd (isNormal x.1) (g x.2.1 x.2.2) none) = some y) : ∃ f1 s1, runC E N c fr s = some [(.normal, f1, s1)] ∧ g f1 s1 = some y := by
  obtain ⟨⟨e, f1, s1⟩, h1, h2⟩ := ob_eq.1 h
  cases e with
  | normal =>
    refine ⟨f1, s1, ?_, h2⟩
    obtain ⟨l, h3, h4⟩ := ob_eq.1 h1
    cases l with
    | nil => cases h4
    | cons x t =>
      cases t with
      | nil => cases h4; exact h3
      | cons _ _ => cases h4
  | exit j => cases h2
  | ret => cases h2
theorem W_head : ∀ {j : Nat} {c : CCode} {fr : Fr} {s : St}, headC E N j c fr s = some (fr', s') → W E (sndN j c) fr' s' Q → W E c fr s Q
  | 0, c, fr, s, h, k => by cases h; exact k
  | j + 1, c, fr, s, h, k => by
    obtain ⟨h1, h2⟩ := must_eq.1 (show must (isSeq c) (ob (oneL (runC E N c.fst fr s)) fun x => cnd (isNormal x.1) (headC E N j c.snd x.2.1 x.2.2) none) = some (fr', s') from h)
    cases c with
    | seq a b =>
      obtain ⟨f1, s1, h3, h4⟩ := one_normal h2
      exact W_seq ⟨N, .normal, f1, s1, h3, W_head (j := j) (c := b) h4 k⟩
    | _ => cases h1
theorem runC_iter {body : CCode} : ∀ {k : Nat} {fr : Fr} {s : St}, iterC E N body k fr s = some (fr', s') → ∀ {m : Nat} {r : List (Ex × Fr × St)}, runC E m (.loop body) fr' s' = some r → ∃ m', runC E m' (.loop body) fr s = some r
  | 0, fr, s, h, m, r, hm => by cases h; exact ⟨m, hm⟩
  | k + 1, fr, s, h, m, r, hm => by
    obtain ⟨f1, s1, h3, h4⟩ := one_normal (show ob (oneL (runC E N body fr s)) (fun x => cnd (isNormal x.1) (iterC E N body k x.2.1 x.2.2) none) = some (fr', s') from h)
    obtain ⟨m', h5⟩ := runC_iter h4 hm
    refine ⟨max N m' + 1, ?_⟩
    show kSeq (runC E (max N m')) (.loop body) (runC E (max N m') body fr s) = some r
    rw [runC_mono (Nat.le_max_left N m') _ _ _ _ h3]
    exact runC_mono (Nat.le_max_right N m') _ _ _ _ h5
/-- Some rounds of a loop, ahead of all else. -/
theorem W_iter {body rest : CCode} {id k : Nat} (h : iterC E N body k fr s = some (fr', s')) (hw : W E (.seq (.block id (.loop body)) rest) fr' s' Q) : W E (.seq (.block id (.loop body)) rest) fr s Q := by
  obtain ⟨n, e, f2, s2, h1, h2⟩ := hw
  cases n with
  | zero => cases h1
  | succ n =>
    have h1 : kSeq (runC E n) rest (runC E n (.block id (.loop body)) fr' s') = some [(e, f2, s2)] := h1
    cases n with
    | zero => cases h1
    | succ n =>
      obtain ⟨l, h3, h4⟩ := ob_eq.1 h1
      obtain ⟨r, h5, h6⟩ := om_eq.1 (show om (runC E n (.loop body) fr' s') (fun l => mapL (blockEx id) l) = some l from h3)
      obtain ⟨m', h7⟩ := runC_iter h h5
      refine ⟨max (n + 1) (m' + 1) + 1, e, f2, s2, ?_, h2⟩
      show kSeq (runC E (max (n + 1) (m' + 1))) rest (runC E (max (n + 1) (m' + 1)) (.block id (.loop body)) fr s) = _
      have h8 : runC E (m' + 1) (.block id (.loop body)) fr s = some l := by
        show om (runC E m' (.loop body) fr s) (fun l => mapL (blockEx id) l) = _
        rw [h7, om_some, h6]
      rw [runC_mono (Nat.le_max_right (n + 1) (m' + 1)) _ _ _ _ h8]
      exact kSeq_mono (runC_mono (Nat.le_max_left (n + 1) (m' + 1))) rest (OLe.refl _) _ (show kSeq (runC E (n + 1)) rest (some l) = _ from h4)
/-- A step of a chain within a chain. -/
theorem W_assoc {a b c : CCode} {f1 : Fr} {s1 : St} (ha : runC E N a fr s = some [(.normal, f1, s1)]) (h : W E (.seq b c) f1 s1 Q) : W E (.seq (.seq a b) c) fr s Q := by
  obtain ⟨n, e, f2, s2, h1, h2⟩ := h
  cases n with
  | zero => cases h1
  | succ n =>
    have h1 : kSeq (runC E n) c (runC E n b f1 s1) = some [(e, f2, s2)] := h1
    refine ⟨max N n + 2, e, f2, s2, ?_, h2⟩
    show kSeq (runC E (max N n + 1)) c (runC E (max N n + 1) (.seq a b) fr s) = _
    have e1 : runC E (max N n + 1) (.seq a b) fr s = runC E (max N n) b f1 s1 := by
      show kSeq (runC E (max N n)) b (runC E (max N n) a fr s) = _
      rw [runC_mono (Nat.le_max_left N n) _ _ _ _ ha]
      rfl
    rw [e1]
    exact kSeq_mono (runC_mono (Nat.le_trans (Nat.le_max_right N n) (Nat.le_succ _))) c (runC_mono (Nat.le_max_right N n) _ _ _) _ h1
/-- A function that ends its work in a loop, and what comes behind it: run in three parts. -/
theorem says_half {P : Program} {f : FuncId} {nt t j k id : Nat} {body R L T : CCode} {k2 : Nat} {fr1 fr2 : Fr} {s0 s1 s2 : St} (hc : E.code f = some ⟨nt, body, [.tmp t]⟩) (hp : E.prim f = none) (hs : sndN j body = .seq (.seq R (.block id (.loop L))) T)
    (h1 : (ob (headC E N j body .e s0) fun x => ob (headC E N 1 (.seq R (.block id (.loop L))) x.1 x.2) fun y => iterC E N L k y.1 y.2) = some (fr1, s1))
    (h1b : iterC E N L k2 fr1 s1 = some (fr2, s2))
    (h2 : endsTrue t (runC E N (.seq (.block id (.loop L)) T) fr2 s2) = true) : ∃ n, saysTrue (callF E (runC E n) f [] s0) = true := by
  obtain ⟨⟨fa, sa⟩, e1, h3⟩ := ob_eq.1 h1
  obtain ⟨⟨fb, sb⟩, e2, e3⟩ := ob_eq.1 h3
  obtain ⟨f3, s3, e4, e5⟩ := one_normal (g := fun f s => some (f, s)) (show ob (oneL (runC E N R fa sa)) (fun x => cnd (isNormal x.1) (some (x.2.1, x.2.2)) none) = some (fb, sb) from e2)
  cases e5
  have : Cv E f [] s0 fun v _ => v = .bool true := by
    refine Cv_of hc ?_
    refine W_head e1 ?_
    rw [hs]
    exact W_assoc e4 (W_iter e3 (W_iter h1b (W_of_run h2 fun fr s h => ⟨rfl, [_], rfl, h⟩)))
  obtain ⟨n, h⟩ := this.says
  refine ⟨n, ?_⟩
  unfold callF
  rw [hp]
  exact h
end
end
end Go.Ev

namespace Go.Ev
open Go (Sem)

/-- What the walks of slices.Insert show: t: the slices' type, ti: int; ov: slices.overlaps. -/
structure Inserts (P : Program) (f ov : FuncId) (t ti : TypeId) : Prop where
  enters : ∀ (args : List Value) (w : World), (callFunc f ⟨args⟩).run P w = .ok (.enter f ⟨args⟩) w
  overl : ∀ (w : World) (a b : Addr) (la ca lb cb : Nat) (tA tB : TypeId) (kA kB : Nat), a.block ≠ b.block → w.shape? a.block = some (tA, kA) → w.shape? b.block = some (tB, kB) → kB ≠ 0 → w.frozen? a = false → w.frozen? ⟨a.block, kA, none⟩ = false →
    (callFunc ov #[.slice (some a) la ca, .slice (some b) lb cb]).run P w = .ok (.value (.bool false)) w
  nil : ∀ (vb voff m vc : Nat) (w w1 : World) (v' : Value), 0 < m → (Builtin.append_ #[t, t] t #[.slice none 0 0, .slice (some ⟨vb, voff, none⟩) m vc]).run P w = .ok v' w1 →
    Calls P f #[.slice none 0 0, .int .i64 (0 : Nat), .slice (some ⟨vb, voff, none⟩) m vc] w fun e w' => e = .returned v' ∧ w' = w1
  end_ : ∀ (a : Addr) (n c vb voff m vc : Nat) (w w1 : World) (v' : Value), 0 < m → n ≤ c → (Builtin.append_ #[t, t] t #[.slice (some a) n c, .slice (some ⟨vb, voff, none⟩) m vc]).run P w = .ok v' w1 →
    Calls P f #[.slice (some a) n c, .int .i64 n, .slice (some ⟨vb, voff, none⟩) m vc] w fun e w' => e = .returned v' ∧ w' = w1
  shift : ∀ (b off n c i vb voff m vc : Nat) (w W1 W2 : World), i < n → 0 < m → n + m ≤ c → n + m ≤ 9223372036854775807 →
    (∀ lb cb, (callFunc ov #[.slice (some ⟨vb, voff, none⟩) m vc, .slice (some ⟨b, off + (i + m), none⟩) lb cb]).run P w = .ok (.value (.bool false)) w) →
    (∀ ty dc sc, (Builtin.copy_ #[t, t] ty #[.slice (some ⟨b, off + (i + m), none⟩) (n + m - (i + m)) dc, .slice (some ⟨b, off + i, none⟩) (n + m - i) sc]).run P w.drew = .ok (goInt (n - i : Nat)) W1) →
    (∀ ty dc, (Builtin.copy_ #[t, t] ty #[.slice (some ⟨b, off + i, none⟩) (n + m - i) dc, .slice (some ⟨vb, voff, none⟩) m vc]).run P W1 = .ok (goInt m) W2) →
    Calls P f #[.slice (some ⟨b, off, none⟩) n c, .int .i64 i, .slice (some ⟨vb, voff, none⟩) m vc] w fun e w' => e = .returned (.slice (some ⟨b, off, none⟩) (n + m) c) ∧ w' = W2
  grow : ∀ (b off n c i vb voff m vc nb G : Nat) (w W1 W2 W3 : World), i < n → 0 < m → n ≤ c → c < n + m → n + m ≤ 9223372036854775807 → n + m ≤ G →
    (∀ ty, (Builtin.append_ #[t, ti] ty #[.slice (some ⟨b, off, none⟩) i c, .int .i64 ((n : Int) + (m : Int) - (i : Int))]).run P w = .ok (.slice (some ⟨nb, 0, none⟩) (n + m) G) W1) →
    (∀ ty dc, (Builtin.copy_ #[t, t] ty #[.slice (some ⟨nb, i, none⟩) (n + m - i) dc, .slice (some ⟨vb, voff, none⟩) m vc]).run P W1 = .ok (goInt m) W2) →
    (∀ ty dc sc, (Builtin.copy_ #[t, t] ty #[.slice (some ⟨nb, i + m, none⟩) (n + m - (i + m)) dc, .slice (some ⟨b, off + i, none⟩) (n - i) sc]).run P W2.drew = .ok (goInt (n - i : Nat)) W3) →
    Calls P f #[.slice (some ⟨b, off, none⟩) n c, .int .i64 i, .slice (some ⟨vb, voff, none⟩) m vc] w fun e w' => e = .returned (.slice (some ⟨nb, 0, none⟩) (n + m) G) ∧ w' = W3

section
variable {P : Program} {ι : Inj} {w : World} {base : Nat} {s : St}

/-- A copy into a row, its source known. -/
theorem copy_wrote {t e : TypeId} (hT : P.underlying t = some (.slice e)) (hE : sizeOf? P e = some 1) {W : World} {b off dl sb so sl k : Nat} {news : List Value} (hk : Nat.min sl dl = k) (hn : news.length = k)
    (hsrc : ∀ j, j < k → W.cell? ⟨sb, so + j, none⟩ = news[j]?) {cs : Array Value} {T : TypeId} {fr : Nat × Nat} (hb : W.heap[b]? = some (.cells cs T fr)) (hlen : off + k ≤ cs.size) (hs : ∀ v ∈ news, scal v) (hf : ∀ o, off ≤ o → o < off + k → ¬ (fr.1 ≤ o ∧ o < fr.2)) :
    ∃ W', (∀ ty dc sc, (Builtin.copy_ #[t, t] ty #[.slice (some ⟨b, off, none⟩) dl dc, .slice (some ⟨sb, so, none⟩) sl sc]).run P W = .ok (goInt k) W') ∧ Wrote W W' b ⟨splice cs.toList off news⟩ T fr := by
  obtain ⟨W', g1, g2⟩ := run_storeCells (P := P) (off := off) news 0 W cs hb (by omega) hs (by intro o h1 h2; exact hf o (by omega) (by omega))
  refine ⟨W', fun ty dc sc => ?_, by simpa using g2⟩
  have f2 : (loadCells ⟨sb, so, none⟩ k).run P W = .ok ⟨news⟩ W := run_loadCells hn (fun i hi => by rw [addr_add]; exact hsrc i hi)
  have e0 : (#[t, t] : Array TypeId)[0]? = some t := rfl
  simp [Builtin.copy_, Builtin.lenOf, Builtin.firstCells, Go.run_underlying hT, Result.andThen, run_sizeOf hE, hk, f2, g1]

/-- A row in its block, told by what its cells hold. -/
theorem OR_gr {κ : Inj} {l m : List Value} (hl : LR κ l m) (hs : ∀ x ∈ l, scal x) {B : Blk} {W : World} {cs : Array Value} {T : TypeId} {fr : Nat × Nat} {es : Nat} (hb : W.heap[B.b]? = some (.cells cs T fr)) (hsz : cs.size = B.n) (hle : B.sh + l.length ≤ B.n)
    (hat : ∀ j, j < l.length → cs[B.sh + j]? = m[j]?) (hfr : freeFrom fr B.sh B.n) (hty : tyOk .gr es B T fr l.length) : OR κ (.cells l es .gr) B W := by
  refine ⟨cs, T, fr, hb, ⟨hsz, hle, ?_, hfr⟩, hty⟩
  intro i x hx
  obtain ⟨y, hy, hv⟩ := hl.some hx
  exact ⟨hs x (List.mem_of_getElem? hx), y, by rw [hat i (List.getElem?_eq_some_iff.1 hx).1, hy], hv⟩

theorem heap_push_of {w w' : World} {o : Obj} (hsz : w'.heap.size = w.heap.size + 1) (hold : ∀ b, b < w.heap.size → w'.heap[b]? = w.heap[b]?) (hnew : w'.heap[w.heap.size]? = some o) : w'.heap = w.heap.push o := by
  apply Array.ext_getElem?
  intro i
  rcases Nat.lt_trichotomy i w.heap.size with h | h | h
  · rw [hold i h, Array.getElem?_push, if_neg (by omega)]
  · subst h; rw [hnew]; simp
  · rw [Array.getElem?_eq_none (by omega), Array.getElem?_eq_none (by rw [Array.size_push]; omega)]

/-- Where the new elements come to lie. -/
theorem mid_get (olds news : List Value) (i n m : Nat) (ho : olds.length = n) (hn : news.length = m) (hi : i ≤ n) (j : Nat) :
    (olds.take i ++ (news ++ olds.drop i))[j]? = if j < i then olds[j]? else if j < i + m then news[j - i]? else olds[j - m]? := by
  by_cases h1 : j < i
  · rw [if_pos h1, List.getElem?_append_left (by simp; omega), List.getElem?_take, if_pos h1]
  · rw [if_neg h1, List.getElem?_append_right (by simp; omega)]
    have e : (List.take i olds).length = i := by simp; omega
    rw [e]
    by_cases h2 : j < i + m
    · rw [if_pos h2, List.getElem?_append_left (by omega)]
    · rw [if_neg h2, List.getElem?_append_right (by omega), List.getElem?_drop]
      congr 1; omega

variable {f ov : FuncId} {t ti e : TypeId}
/-- Within an open row: in place, or in a new row. -/
theorem insertMid_ok (I : Inserts P f ov t ti) (hT : P.underlying t = some (.slice e)) (hI : P.underlying ti = some (.int .i64)) {bytes : Nat} {z : Value} (hE : sizeOf? P e = some 1) (hb : bytesOf? P e = some bytes) (hz : zeroOf P e = some z) (hzs : z.cells.size = 1) (hb0 : 0 < bytes)
    (r : Rel ι base s w) {a : Addr} {n k m : Nat} {x' : Value} (hx : VR ι (.slice (some a) n open_) x') {vb voff vc : Nat} {tA : TypeId} {kA : Nat} {new news : List Value} (hl2 : LR ι new news) (hs2 : ∀ x ∈ new, scal x) (hnm : news.length = m)
    (hsrc : ∀ j, j < m → w.cell? ⟨vb, voff + j, none⟩ = news[j]?) (hshape : w.shape? vb = some (tA, kA)) (hf1 : w.frozen? ⟨vb, voff, none⟩ = false) (hf2 : w.frozen? ⟨vb, kA, none⟩ = false) (hvb : ∀ B, ι a.block = some B → owned ((s.get a.block).getD .dead) = true → vb ≠ B.b)
    (hk : k < n) (hm : 0 < m) (hroom : (n + m) * bytes ≤ room) {v : Value} {s' : St} (h : insertMid s (tag e 1) a n k m new = some (v, s')) :
    Calls P f #[x', .int .i64 k, .slice (some ⟨vb, voff, none⟩) m vc] w fun ex w' => ∃ v', ex = .returned v' ∧ ∃ κ, Ext none_ ι base s w κ s' w' ∧ VR κ v v' := by
  obtain ⟨⟨cs, es, md⟩, hg1, H1⟩ := ob_eq.1 h
  have hg := asCells_eq hg1
  simp only at H1 hg
  obtain ⟨hend, H2⟩ := must_eq.1 H1
  obtain ⟨hmd, H3⟩ := must_eq.1 H2
  obtain ⟨hes, H⟩ := must_eq.1 H3
  clear H1 H2 H3
  rw [Nat.beq_eq, lenL_eq] at hend
  rw [Nat.beq_eq] at hes
  have hmdg : md = .gr := by cases md <;> first | rfl | cases hmd
  subst hmdg
  have hro : room = 140737488355328 := rfl
  have hneed : n + m ≤ (n + m) * bytes := Nat.le_mul_of_pos_right _ hb0
  obtain ⟨es2, he2, he3, he4⟩ : ∃ es2, cnd (Nat.beq es (tag e 1)) es 1 = es2 ∧ esz es2 = 1 ∧ ((es2 = es ∧ es = tag e 1) ∨ ety es2 = 0) := by
    refine ⟨_, rfl, ?_⟩
    rw [cnd_eq]
    split
    · rename_i hh; rw [Nat.beq_eq] at hh; exact ⟨hes, .inl ⟨rfl, hh⟩⟩
    · exact ⟨rfl, .inr rfl⟩
  rw [he2] at H
  simp only [appL_eq, dropL_eq, takeL_eq, Option.some.injEq, Prod.mk.injEq] at H
  obtain ⟨rfl, rfl⟩ := H
  obtain ⟨B, c, hB, hsp, rfl, hcap, hle⟩ : ∃ B c, ι a.block = some B ∧ a.spot = none ∧ x' = .slice (some ⟨B.b, B.sh + a.off, none⟩) n c ∧ B.sh + a.off + c * B.es = B.n ∧ n ≤ c := by
    cases hx with
    | sl _ hc _ => exact absurd hc (by simp)
    | slO hB hsp ha hcap hle => subst ha; exact ⟨_, _, hB, hsp, rfl, hcap, hle⟩
    | slV => omega
  obtain ⟨cs', T, fr, w1, ⟨w2, w3, w4, w5⟩, w6⟩ := r.cells hg hB
  obtain ⟨hBe, _⟩ := w6.1 rfl
  rw [hes] at hBe
  rw [hBe, Nat.mul_one] at hcap
  have hne : vb ≠ B.b := hvb B hB (by rw [hg]; rfl)
  -- the old elements
  have hrow : s.row a n = some (cs.drop a.off) := by
    unfold St.row
    rw [hg1]
    simp only [ob_some, lenL_eq, takeL_eq, dropL_eq]
    rw [must_eq]
    exact ⟨by rw [Nat.ble_eq]; omega, by rw [List.take_of_length_le (by simp; omega)]⟩
  obtain ⟨g1, g2, olds, g3, g4⟩ := r.row (a' := ⟨B.b, B.sh + a.off, none⟩) ⟨B, hB, hsp, rfl⟩ hrow
  have hol : olds.length = n := by rw [← g3.length, g1]
  have hold : ∀ j, j < n → cs'[B.sh + a.off + j]? = olds[j]? := by
    intro j hj
    rw [← g4 j hj, addr_add, cell?_of w1]
  have hso : ∀ x ∈ olds, scal x := g3.scal g2
  have hsn : ∀ x ∈ news, scal x := hl2.scal hs2
  have hll : LR ι ((cs.drop a.off).take k ++ (new ++ (cs.drop a.off).drop k)) (olds.take k ++ (news ++ olds.drop k)) := (g3.take k).append (hl2.append (g3.drop k))
  have hsl : ∀ x ∈ (cs.drop a.off).take k ++ (new ++ (cs.drop a.off).drop k), scal x := by
    intro x hx
    rcases List.mem_append.1 hx with hx | hx
    · exact g2 x (List.mem_of_mem_take hx)
    · rcases List.mem_append.1 hx with hx | hx
      · exact hs2 x hx
      · exact g2 x (List.mem_of_mem_drop hx)
  have hlen : ((cs.drop a.off).take k ++ (new ++ (cs.drop a.off).drop k)).length = n + m := by
    rw [hll.length]; simp only [List.length_append, List.length_take, List.length_drop, hol, hnm]; omega
  have hfree : ∀ o, B.sh ≤ o → o < B.n → ¬ (fr.1 ≤ o ∧ o < fr.2) := fun o h1 h2 => w5 o h1 h2
  have hdl : (olds.drop k).length = n - k := by rw [List.length_drop, hol]
  by_cases hroom' : n + m ≤ c
  · -- in place
    obtain ⟨W1, k1, k2⟩ := copy_wrote (P := P) hT hE (W := w.drew) (b := B.b) (off := B.sh + a.off + (k + m)) (dl := n + m - (k + m)) (sb := B.b) (so := B.sh + a.off + k) (sl := n + m - k) (k := n - k) (news := olds.drop k)
      (by simp only [Nat.min_def]; split <;> omega) hdl (by
        intro j hj
        show w.cell? _ = _
        rw [cell?_of w1, Nat.add_assoc, hold (k + j) (by omega), List.getElem?_drop]) (cs := cs') (T := T) (fr := fr) w1 (by omega) (fun v hv => hso v (List.mem_of_mem_drop hv)) (fun o h1 h2 => hfree o (by omega) (by omega))
    have hsz1 : (splice cs'.toList (B.sh + a.off + (k + m)) (olds.drop k)).length = B.n := by
      rw [splice_length _ _ _ (by rw [hdl]; simp; omega)]; simpa using w2
    obtain ⟨W2, k3, k4⟩ := copy_wrote (P := P) hT hE (W := W1) (b := B.b) (off := B.sh + a.off + k) (dl := n + m - k) (sb := vb) (so := voff) (sl := m) (k := m) (news := news)
      (by simp only [Nat.min_def]; split <;> omega) hnm (by
        intro j hj
        have := hsrc j hj
        unfold World.cell? at this ⊢
        rw [k2.old vb hne]
        exact this) k2.at_ (by simp only [List.size_toArray]; omega) hsn (fun o h1 h2 => hfree o (by omega) (by omega))
    refine (I.shift B.b (B.sh + a.off) n c k vb voff m vc w W1 W2 hk hm hroom' (by omega) (fun lb cb => I.overl w _ _ m vc lb cb tA T kA B.n hne hshape (by unfold World.shape?; rw [w1]; simp [w2]) (by omega) hf1 hf2) (fun ty dc sc => k1 ty dc sc) (fun ty dc => k3 ty dc vc)).mono fun ex w' he => ?_
    obtain ⟨rfl, rfl⟩ := he
    refine ⟨_, rfl, ?_⟩
    have hn2 := (r.next s.next (Nat.le_refl _)).2
    have hle' : ι.le (ι.put s.next ⟨B.b, B.sh + a.off, B.n, 1⟩) := Inj.le_put _ hn2
    refine ⟨_, Ext.move r a.block _ _ B ⟨B.b, B.sh + a.off, B.n, 1⟩ hg rfl rfl hB rfl (k4.size.trans k2.size) (fun b hb => (k4.old b hb).trans (k2.old b hb)) (k4.os.trans k2.os) (k4.tape.trans k2.tape) (k4.output.trans k2.output) ?_, ?_⟩
    · refine OR_gr (hll.mono hle') hsl k4.at_ (by simp only [List.size_toArray]; rw [splice_length _ _ _ (by omega)]; exact hsz1) (by rw [hlen]; simp only; omega) ?_ (fun o h1 h2 => w5 o (by simp only at h1; omega) h2) ?_
      · intro j hj
        rw [hlen] at hj
        simp only
        rw [arr_get, splice_get _ _ _ (by omega), mid_get olds news k n m hol hnm (by omega)]
        by_cases h1 : j < k
        · rw [if_neg (by omega), if_pos h1, splice_get _ _ _ (by simp; omega), if_neg (by omega), Array.getElem?_toList, hold j (by omega)]
        · rw [if_neg h1]
          by_cases h2 : j < k + m
          · rw [if_pos h2, if_pos (by omega)]; congr 1; omega
          · rw [if_neg h2, if_neg (by omega), splice_get _ _ _ (by simp; omega), if_pos (by omega), List.getElem?_drop]; congr 1; omega
      · refine ⟨fun _ => ⟨he3.symm, by rw [he3]; omega⟩, ?_⟩
        rcases he4 with ⟨rfl, _⟩ | h0
        · refine w6.2.imp id fun ⟨q1, q2, q3⟩ => ⟨q1, fun hh => ?_, fun hh => by cases hh⟩
          have := q2 rfl; simp only; omega
        · exact .inl h0
    · exact .slO (B := ⟨B.b, B.sh + a.off, B.n, 1⟩) (Inj.put_same _ _ _) rfl rfl (by simp only; omega) hroom'
  · -- a new row
    obtain ⟨i, hi, hi1, hi2, hiz⟩ := info_of hE hb hz
    have hfirst : (Builtin.firstCells i.size k (.slice (some ⟨B.b, B.sh + a.off, none⟩) k c)).run P w.drew = .ok (olds.take k).toArray w.drew := by
      rw [hi1]
      have : (loadCells ⟨B.b, B.sh + a.off, none⟩ k).run P w.drew = .ok ⟨olds.take k⟩ w.drew := run_loadCells (by rw [List.length_take]; omega) (by
        intro j hj
        show w.cell? _ = _
        rw [g4 j (by omega), List.getElem?_take, if_pos hj])
      simpa [Builtin.firstCells] using this
    have hkk : (n : Int) + (m : Int) - (k : Int) = ((n + m - k : Nat) : Int) := by omega
    have hik : k + (n + m - k) = n + m := by omega
    have hap := fun ty => Lib.run_append_grow_zeros w t ti ty e i z .i64 .i64 hT hI hi hiz (some ⟨B.b, B.sh + a.off, none⟩) k c (olds.take k) hfirst (n + m - k) (by omega) (by omega) (by omega) (by omega) (by
      rw [hi2]; have : (n + m - k) * bytes ≤ (n + m) * bytes := Nat.mul_le_mul_right _ (by omega)
      omega) (by rw [hi2, hik]; exact growslice_fits (by omega) (by omega))
    rw [hik, ← hkk] at hap
    have hGn : n + m ≤ grownCap w (n + m) c e := cut_ge _ _ _ _
    generalize hG : grownCap w (n + m) c e = G at hap hGn
    generalize hROW : (olds.take k).toArray ++ Builtin.zeroCells z.cells (n + m - k) ++ Builtin.zeroCells z.cells (G - (n + m)) = ROW at hap
    have hRl : ROW.size = G := by
      rw [← hROW]; simp [Builtin.zeroCells, hzs]; omega
    have hRk : ∀ j, j < k → ROW[j]? = olds[j]? := by
      intro j hj
      rw [← hROW, Array.getElem?_append_left (by simp; omega), Array.getElem?_append_left (by simp; omega)]
      simp [hj]
    obtain ⟨W0, hW0⟩ : ∃ W0, W0 = w.drew.alloc (.cells ROW e) := ⟨_, rfl⟩
    rw [← hW0] at hap
    have hh0 : W0.heap = w.heap.push (.cells ROW e) := by rw [hW0]; rfl
    have hat0 : W0.heap[w.heap.size]? = some (.cells ROW e (0, 0)) := by rw [hh0]; simp
    have hold0 : ∀ b, b < w.heap.size → W0.heap[b]? = w.heap[b]? := fun b hb => by rw [hh0, Array.getElem?_push, if_neg (by omega)]
    have hsz0 : W0.heap.size = w.heap.size + 1 := by rw [hh0, Array.size_push]
    have hvl : vb < w.heap.size := by
      unfold World.shape? at hshape
      rcases Nat.lt_or_ge vb w.heap.size with h | h
      · exact h
      · rw [Array.getElem?_eq_none h] at hshape; cases hshape
    have hBl : B.b < w.heap.size := r.blk _ _ hB
    obtain ⟨W1, k1, k2⟩ := copy_wrote (P := P) hT hE (W := W0) (b := w.heap.size) (off := k) (dl := n + m - k) (sb := vb) (so := voff) (sl := m) (k := m) (news := news)
      (by simp only [Nat.min_def]; split <;> omega) hnm (by
        intro j hj
        have := hsrc j hj
        unfold World.cell? at this ⊢
        rw [hold0 vb hvl]
        exact this) hat0 (by omega) hsn (fun o h1 h2 => by simp)
    have hsz1 : (splice ROW.toList k news).length = G := by
      rw [splice_length _ _ _ (by rw [hnm]; simp; omega)]; simpa using hRl
    obtain ⟨W2, k3, k4⟩ := copy_wrote (P := P) hT hE (W := W1.drew) (b := w.heap.size) (off := k + m) (dl := n + m - (k + m)) (sb := B.b) (so := B.sh + a.off + k) (sl := n - k) (k := n - k) (news := olds.drop k)
      (by simp only [Nat.min_def]; split <;> omega) hdl (by
        intro j hj
        have e1 : W1.heap[B.b]? = some (.cells cs' T fr) := by rw [k2.old B.b (by omega), hold0 B.b hBl, w1]
        show W1.cell? _ = _
        rw [cell?_of e1, Nat.add_assoc, hold (k + j) (by omega), List.getElem?_drop]) k2.at_ (by simp only [List.size_toArray]; omega) (fun v hv => hso v (List.mem_of_mem_drop hv)) (fun o h1 h2 => by simp)
    refine (I.grow B.b (B.sh + a.off) n c k vb voff m vc w.heap.size G w W0 W1 W2 hk hm hle (by omega) (by omega) hGn hap (fun ty dc => k1 ty dc vc) (fun ty dc sc => k3 ty dc sc)).mono fun ex w' he => ?_
    obtain ⟨rfl, rfl⟩ := he
    refine ⟨_, rfl, ?_⟩
    -- what the new row holds
    obtain ⟨F, hF⟩ : ∃ F, F = splice (splice ROW.toList k news) (k + m) (olds.drop k) := ⟨_, rfl⟩
    have hFl : F.length = G := by rw [hF, splice_length _ _ _ (by omega)]; exact hsz1
    have hFt : F.take (n + m) = olds.take k ++ (news ++ olds.drop k) := by
      apply List.ext_getElem?
      intro j
      rw [mid_get olds news k n m hol hnm (by omega), List.getElem?_take]
      by_cases hj : j < n + m
      · rw [if_pos hj, hF, splice_get _ _ _ (by omega)]
        by_cases h1 : j < k
        · rw [if_neg (by omega), if_pos h1, splice_get _ _ _ (by rw [hnm]; simp; omega), if_neg (by omega), Array.getElem?_toList, hRk j h1]
        · rw [if_neg h1]
          by_cases h2 : j < k + m
          · rw [if_pos h2, if_neg (by omega), splice_get _ _ _ (by rw [hnm]; simp; omega), if_pos (by omega)]
          · rw [if_neg h2, if_pos (by omega), List.getElem?_drop]; congr 1; omega
      · rw [if_neg hj, if_neg (by omega), if_neg (by omega), List.getElem?_eq_none (by omega)]
    have hd := Ext.drop (S := none_) r a.block _ B hg rfl hB
    obtain ⟨κ, q1, q2⟩ := grown_new (S := none_) hd.rel (E := e) (es := 1) (cap := G) (need := n + m) (z := F.drop (n + m)) (tg := es2) hll hsl he3 (he4.elim (fun ⟨q1, q2⟩ => by rw [q1, q2]; exact .inr (ety_tag (by decide))) .inl) (by omega) (by rw [hlen]; omega) hGn (by rw [List.length_drop, hFl]; omega) (w' := w') (by
      refine heap_push_of ?_ (fun b hb => ?_) ?_
      · rw [k4.size]; show W1.heap.size = _; rw [k2.size, hsz0]
      · rw [k4.old b (by omega)]; show W1.heap[b]? = _; rw [k2.old b (by omega), hold0 b hb]
      · rw [k4.at_, ← hFt, List.take_append_drop, hF]) (by rw [k4.os]; show W1.os = _; rw [k2.os, hW0]; rfl) (by rw [k4.tape]; show W1.tape = _; rw [k2.tape, hW0]; rfl) (by rw [k4.output]; show W1.output = _; rw [k2.output, hW0]; rfl) (md := .gr) rfl
    exact ⟨κ, hd.trans q1, q2⟩

theorem args3_eq {g : Value → Value → Value → St → R} {l : List Value} {s : St} {q : Value × St} (h : (List.casesOn l none fun x l => args2 (g x) l s) = some q) : ∃ x y z, l = [x, y, z] ∧ g x y z s = some q := by
  cases l with
  | nil => cases h
  | cons x l =>
    obtain ⟨y, z, rfl, h2⟩ := args2_eq (show args2 (g x) l s = some q from h)
    exact ⟨x, y, z, rfl, h2⟩
theorem LR.three {x y z : Value} {m : List Value} (h : LR ι [x, y, z] m) : ∃ a b c, m = [a, b, c] ∧ VR ι x a ∧ VR ι y b ∧ VR ι z c := by
  cases h with
  | cons h t => obtain ⟨b, c, rfl, h2, h3⟩ := t.two; exact ⟨_, _, _, rfl, h, h2, h3⟩

theorem isPrim_insert (I : Inserts P f ov t ti) (hT : P.underlying t = some (.slice e)) (hI : P.underlying ti = some (.int .i64)) {bytes : Nat} {z : Value} (hE : sizeOf? P e = some 1) (hb : bytesOf? P e = some bytes) (hz : zeroOf P e = some z) (hzs : z.cells.size = 1) (hb0 : 0 < bytes) : IsPrim P f (pInsert (tag e 1) bytes) := by
  intro ι base s w args args' v s' hg r ha h
  obtain ⟨x, i, y, rfl, h1⟩ := args3_eq h
  obtain ⟨x', i', y', rfl, hx, hi, hy⟩ := ha.three
  obtain ⟨p, hp, h2⟩ := ob_eq.1 h1
  obtain ⟨j, hj, h3⟩ := ob_eq.1 h2
  obtain ⟨hk64, h4⟩ := must_eq.1 h3
  obtain ⟨k, hk, h5⟩ := ob_eq.1 h4
  obtain ⟨q, hq, h6⟩ := ob_eq.1 h5
  obtain ⟨b, hqb, h7⟩ := ob_eq.1 h6
  obtain ⟨hm, h8⟩ := must_eq.1 h7
  obtain ⟨hclosed, h9⟩ := must_eq.1 h8
  obtain ⟨⟨ds, des, dmd⟩, hd1, h10⟩ := ob_eq.1 h9
  obtain ⟨hdx, h11⟩ := must_eq.1 h10
  obtain ⟨new, hnew, h12⟩ := ob_eq.1 h11
  obtain ⟨hroom, H⟩ := must_eq.1 h12
  clear h h1 h2 h3 h4 h5 h6 h7 h8 h9 h10 h11 h12
  rw [kEq_eq] at hk64
  have hk64 : j.1 = .i64 := by simpa using hk64
  obtain ⟨kk, hkk⟩ := asNat_eq hk
  have hi2 := asInt_eq hj
  rw [hkk] at hi2
  simp only [Value.int.injEq] at hi2
  rw [hkk, hi2.1, hk64] at hi
  rw [hi.intE]
  clear hi hi2 hkk hj hk hk64
  obtain ⟨xb, n, cap⟩ := p
  obtain ⟨qb, m, qc⟩ := q
  simp only at hqb hm hclosed hroom hnew H
  subst hqb
  rw [Nat.ble_eq] at hm hroom
  have hclosed : qc ≠ open_ := by
    intro e0
    have e1 : Nat.beq qc open_ = true := by rw [Nat.beq_eq]; exact e0
    rw [e1] at hclosed; cases hclosed
  have hxe := asSl_eq hp
  rw [asSl_eq hq] at hy
  simp only at hxe hy
  have hdg := asCells_eq hd1
  simp only at hdg
  have hdm : dmd = .ex := by simp only at hdx; cases dmd <;> first | rfl | cases hdx
  subst hdm
  obtain ⟨Bv, hBv, hvs, rfl⟩ : ∃ B, ι b.block = some B ∧ b.spot = none ∧ y' = .slice (some ⟨B.b, B.sh + b.off, none⟩) m qc := by
    cases hy with
    | sl h _ _ => obtain ⟨B, g1, g2, rfl⟩ := h; exact ⟨B, g1, g2, rfl⟩
    | slO => exact absurd rfl hclosed
    | slV => exact absurd rfl hclosed
  obtain ⟨dv, Tv, frv, d1, ⟨d2, d3, d4, d5⟩, d6⟩ := r.cells hdg hBv
  obtain ⟨d51, d52, d53⟩ := d5
  subst d53
  obtain ⟨g1, g2, news, g3, g4⟩ := r.row (a' := ⟨Bv.b, Bv.sh + b.off, none⟩) ⟨Bv, hBv, hvs, rfl⟩ hnew
  have hnl : news.length = m := by rw [← g3.length, g1]
  refine .inr ⟨I.enters _ _, ?_⟩
  suffices hc : Calls P f #[x', .int .i64 k, .slice (some ⟨Bv.b, Bv.sh + b.off, none⟩) m qc] w fun ex w' => ∃ v', ex = .returned v' ∧ ∃ κ, Ext none_ ι base s w κ s' w' ∧ VR κ v v' from
    hc.mono fun ex w' ⟨v', he, g⟩ => by subst he; exact g
  have H0 : insertAt (tag e 1) bytes s x (xb, n, cap) (some b, m, qc) k b new = some (v, s') := H
  clear H
  unfold insertAt at H0
  rw [cnd_eq] at H0
  split at H0
  · -- behind the last
    rename_i hkn
    rw [Nat.beq_eq] at hkn
    simp only at hkn
    subst hkn
    obtain ⟨i, hi, hi1, hi2, hiz⟩ := info_of hE hb hz
    have hy2 : VR ι (.slice (some b) m qc) (.slice (some ⟨Bv.b, Bv.sh + b.off, none⟩) m qc) := hy
    obtain ⟨f1, news2, f2, f3, f4, f5⟩ := firstCells_ok (P := P) r hy2 (size := i.size) (n := m) rfl (Nat.le_refl _) (by
      rw [hi1]
      show s.row b (m * 1) = some new
      rw [Nat.mul_one]; exact hnew)
    have src : Src P i.size t (.slice (some ⟨Bv.b, Bv.sh + b.off, none⟩) m qc) m news2 w := ⟨.inl ⟨_, hT⟩, f1, f2 w.drawn, f2 (w.drawn + 1), f3, fun q hq => scal_one (f4.scal f5 q hq)⟩
    obtain ⟨κ, v', w', e1, e2, e3⟩ := appendNew_ok (ty := t) r hT hi hiz (by rw [hzs, hi1]) (by omega) (by omega) hx (App.src hT hi hiz src) f4 f5 (tg := tag e 1) (by rw [hi1]; exact esz_tag (by decide)) (.inr (ety_tag (by decide))) (by omega) (by rw [hi1, hi2]; exact H0) none_
    rw [hxe] at hx
    have done : ∀ ex w'', (ex = Ending.returned v' ∧ w'' = w') → ∃ v'', ex = .returned v'' ∧ ∃ κ, Ext none_ ι base s w κ s' w'' ∧ VR κ v v'' := by
      rintro ex w'' ⟨rfl, rfl⟩; exact ⟨v', rfl, κ, e2, e3⟩
    cases hx with
    | slN => exact (I.nil _ _ _ _ _ _ _ (by omega) e1).mono fun ex w'' he => done ex w'' he
    | sl _ _ hle => exact (I.end_ _ _ _ _ _ _ _ _ _ _ (by omega) hle e1).mono fun ex w'' he => done ex w'' he
    | slO _ _ _ _ hle => exact (I.end_ _ _ _ _ _ _ _ _ _ _ (by omega) hle e1).mono fun ex w'' he => done ex w'' he
    | slV => exact (I.end_ _ _ _ _ _ _ _ _ _ _ (by omega) (Nat.le_refl _) e1).mono fun ex w'' he => done ex w'' he
  · -- in front of others
    obtain ⟨hlt, H2⟩ := must_eq.1 H0
    obtain ⟨hop, H3⟩ := must_eq.1 H2
    obtain ⟨a, hxb, H4⟩ := ob_eq.1 H3
    obtain ⟨hab, H5⟩ := must_eq.1 H4
    clear H0 H2 H3 H4
    simp only at hlt hop hxb H5
    subst hxb
    rw [Nat.beq_eq] at hop
    subst hop
    have hlt : k < n := by simpa [Nat.blt_eq] using hlt
    have hab : a.block ≠ b.block := by
      intro e0
      have e1 : Nat.beq a.block b.block = true := by rw [Nat.beq_eq]; exact e0
      rw [e1] at hab; cases hab
    rw [hxe] at hx
    refine insertMid_ok I hT hI hE hb hz hzs hb0 r hx (tA := Tv) (kA := dv.size) g3 g2 hnl (fun j hj => by rw [← g4 j hj, addr_add]) (by unfold World.shape?; rw [d1]) (by unfold World.frozen?; rw [d1]; simp) (by unfold World.frozen?; rw [d1]; simp) (fun B hB ho => ?_) hlt (by omega) hroom H5
    cases hga : s.get a.block with
    | none => rw [hga] at ho; cases ho
    | some o =>
      rw [hga] at ho
      exact (r.sep a.block b.block o _ B Bv hga hdg hab ho rfl hB hBv).symm
end
end Go.Ev

namespace Go.Ev
open Go

theorem returnsInHanded_shaped {H : Type} {enc : TypeId × Value → H} {a : Assume} {C : Checked} {os : Os} {f : FuncId} {fn : Func} {s : ChangeSpec} {conds : List PathCond} {apart fresh handsOn again : Bool} {X : World → Array Value → Prop}
    (hX : ∀ (w w' : World) (args : Array Value), w.heap = w'.heap → X w args → X w' args)
    (own : ownKnob C.prog.godebug = none) (started : os.Started) (noInit : C.prog.inits.idxOf? f = none) (hfn : C.prog.funcs[f]? = some fn)
    (witness : ∃ (w : World) (tape : Tape) (i : Input), w.os = os ∧ (w.forCall tape i).Shaped C.prog ∧ i.vars = [] ∧ Input.okWide C.prog (w.forCall tape i) .any w.heap.size f i ∧
      ((s.pre enc C.prog fn conds apart (w.forCall tape i).memory i.args ∧ X (w.forCall tape i).memory i.args) ∧ sizedMet enc C.prog fn (OpenSpec.ofChange s) apart (w.forCall tape i).memory i.args) ∧ a.holds C.prog (lone (Frame.enter C.prog f i.args .normal) [] (w.forCall tape i)))
    (contract : ∀ (W : World) (base : Nat) (args : Array Value) (ds gs : List (DataW H)) (before : List MemPlace), W.ShapedOpen C.prog →
      (∀ (j : Nat) (t : TypeId) (v : Value), fn.params[j]? = some t → args[j]? = some v → Value.okWide C.prog W .any base t v) →
      DataW.Whole enc C.prog fn.params.toList s.vars apart W args.toList ds gs before →
      conds.all (PathCond.test C.prog ⟨fn.params.toList, ds, s.plain.varTypes C.prog, gs⟩) = true →
      (DataW.weightsEach C.prog (fn.params.toList ++ s.plain.varTypes C.prog) (ds ++ gs)).all (· ≤ reachBytes) = true → X W args →
      Calls C.prog f args W fun e W' => ∃ v, e = .returned v ∧ s.post enc C.prog fn apart fresh handsOn again W args v W') :
    ReturnsInHanded a C os f .any (fun w args => (s.pre enc C.prog fn conds apart w args ∧ X w args) ∧ sizedMet enc C.prog fn (OpenSpec.ofChange s) apart w args) (s.post enc C.prog fn apart fresh handsOn again) := by
  refine returnsInHanded_of_calls own started noInit witness ?_
  intro w tape i _ hshape _ hok hpre _
  obtain ⟨_, _, _, fn', hfn', _, _, _, _, hval⟩ := hok
  have e : fn' = fn := Option.some.inj (hfn'.symm.trans hfn)
  subst e
  obtain ⟨⟨⟨ds, gs, before, hw, hc⟩, hx⟩, hz⟩ := hpre
  have hw' := DataW.Whole.of_heap (w' := w.forCall tape i) (by rfl) hw
  refine (contract (w.forCall tape i) w.heap.size i.args ds gs before hshape hval hw' hc (hz.weights hw) (hX _ _ _ (by rfl) hx)).mono fun e W' ⟨v, he, hp⟩ => ?_
  subst he
  exact ChangeSpec.post_blind hp

theorem returnsInHanded_bare {H : Type} {enc : TypeId × Value → H} {a : Assume} {C : Checked} {os : Os} {f : FuncId} {fn : Func} {s : ChangeSpec} {conds : List PathCond} {apart fresh handsOn again : Bool}
    (own : ownKnob C.prog.godebug = none) (started : os.Started) (noInit : C.prog.inits.idxOf? f = none) (hfn : C.prog.funcs[f]? = some fn)
    (witness : ∃ (w : World) (tape : Tape) (i : Input), w.os = os ∧ (w.forCall tape i).Shaped C.prog ∧ i.vars = [] ∧ Input.okWide C.prog (w.forCall tape i) .any w.heap.size f i ∧
      ((s.pre enc C.prog fn conds apart (w.forCall tape i).memory i.args ∧ True) ∧ sizedMet enc C.prog fn (OpenSpec.ofChange s) apart (w.forCall tape i).memory i.args) ∧ a.holds C.prog (lone (Frame.enter C.prog f i.args .normal) [] (w.forCall tape i)))
    (contract : ∀ (W : World) (base : Nat) (args : Array Value) (ds gs : List (DataW H)) (before : List MemPlace), W.ShapedOpen C.prog →
      (∀ (j : Nat) (t : TypeId) (v : Value), fn.params[j]? = some t → args[j]? = some v → Value.okWide C.prog W .any base t v) →
      DataW.Whole enc C.prog fn.params.toList s.vars apart W args.toList ds gs before →
      conds.all (PathCond.test C.prog ⟨fn.params.toList, ds, s.plain.varTypes C.prog, gs⟩) = true →
      (DataW.weightsEach C.prog (fn.params.toList ++ s.plain.varTypes C.prog) (ds ++ gs)).all (· ≤ reachBytes) = true →
      Calls C.prog f args W fun e W' => ∃ v, e = .returned v ∧ s.post enc C.prog fn apart fresh handsOn again W args v W') :
    ReturnsInHanded a C os f .any (fun w args => s.pre enc C.prog fn conds apart w args ∧ sizedMet enc C.prog fn (OpenSpec.ofChange s) apart w args) (s.post enc C.prog fn apart fresh handsOn again) := by
  refine returnsInHanded_of_calls own started noInit (let ⟨w, t, i, h1, h2, h3, h4, ⟨⟨h5, _⟩, h6⟩, h7⟩ := witness; ⟨w, t, i, h1, h2, h3, h4, ⟨h5, h6⟩, h7⟩) ?_
  intro w tape i _ hshape _ hok hpre _
  obtain ⟨_, _, _, fn', hfn', _, _, _, _, hval⟩ := hok
  have e : fn' = fn := Option.some.inj (hfn'.symm.trans hfn)
  subst e
  obtain ⟨⟨ds, gs, before, hw, hc⟩, hz⟩ := hpre
  have hw' := DataW.Whole.of_heap (w' := w.forCall tape i) (by rfl) hw
  refine (contract (w.forCall tape i) w.heap.size i.args ds gs before hshape hval hw' hc (hz.weights hw)).mono fun e W' ⟨v, he, hp⟩ => ?_
  subst he
  exact ChangeSpec.post_blind hp
end Go.Ev

namespace Go.Ev
open Go

section
variable {P : Program} {w : World} {r : Reach} {base : Nat} {t : TypeId} {v : Value}
theorem okCell_bool (ht : P.underlying t = some .bool) (h : Cell.okWide P w r base t v) : ∃ b, v = .bool b := by
  simp only [Cell.okWide, ht] at h
  cases v <;> simp_all [Cell.ok]
theorem okCell_int {k : IntKind} (ht : P.underlying t = some (.int k)) (h : Cell.okWide P w r base t v) : ∃ n, v = .int k n := by
  simp only [Cell.okWide, ht] at h
  cases v <;> simp_all [Cell.ok]
theorem okCell_string (ht : P.underlying t = some .string) (h : Cell.okWide P w r base t v) : ∃ s, v = .string s := by
  simp only [Cell.okWide, ht] at h
  cases v <;> simp_all [Cell.ok]
theorem okCell_slice {e : TypeId} (ht : P.underlying t = some (.slice e)) (h : Cell.okWide P w r base t v) : v = .slice none 0 0 ∨ ∃ a n c, v = .slice (some a) n c ∧ n ≤ c ∧ a.spot = none ∧ a.block < w.heap.size := by
  cases v with
  | slice a n c =>
    simp only [Cell.okWide, ht, Cell.ok] at h
    cases a with
    | none =>
      cases n <;> cases c <;> simp_all
    | some a =>
      right
      simp only at h
      obtain ⟨h1, _, _, h3, row, cells, h4, _⟩ := h
      refine ⟨a, n, c, rfl, h1, h3, ?_⟩
      unfold World.shape? at h4
      cases hh : w.heap[a.block]? with
      | none => rw [hh] at h4; simp at h4
      | some o => exact (Array.getElem?_eq_some_iff.1 hh).1
  | _ => simp [Cell.okWide, ht, Cell.ok] at h

/-- Cells of the types said, one by one. -/
inductive CellsOk (P : Program) (w : World) (r : Reach) (base : Nat) : List TypeId → List Value → Prop
  | nil : CellsOk P w r base [] []
  | cons {t : TypeId} {v : Value} {ts : List TypeId} {vs : List Value} (h : Cell.okWide P w r base t v) (k : CellsOk P w r base ts vs) : CellsOk P w r base (t :: ts) (v :: vs)
theorem CellsOk.of : ∀ {ts : List TypeId} {cs : List Value}, cs.length = ts.length → (∀ (i : Nat) (u : TypeId) (v : Value), ts[i]? = some u → cs[i]? = some v → Cell.okWide P w r base u v) → CellsOk P w r base ts cs
  | [], [], _, _ => .nil
  | [], _ :: _, h, _ => by simp at h
  | _ :: _, [], h, _ => by simp at h
  | t :: ts, v :: vs, h, k => .cons (k 0 t v rfl rfl) (CellsOk.of (by simpa using h) fun i u x hu hx => k (i + 1) u x (by simpa using hu) (by simpa using hx))
theorem CellsOk.inv {ts : List TypeId} {cs : List Value} (h : CellsOk P w r base (t :: ts) cs) : ∃ v vs, cs = v :: vs ∧ Cell.okWide P w r base t v ∧ CellsOk P w r base ts vs := by
  cases h with
  | cons h k => exact ⟨_, _, rfl, h, k⟩
theorem CellsOk.end_ {cs : List Value} (h : CellsOk P w r base [] cs) : cs = [] := by cases h; rfl
/-- The cells of a struct. -/
theorem okCells {fs : Array Field} {ts : List TypeId} (ht : P.underlying t = some (.struct fs)) (hts : P.cellTypes P.depth t = some ts) (hn : P.cellsOf t = ts.length) (h : Value.okWide P w r base t v) : ∃ cs, v = .agg ⟨cs⟩ ∧ CellsOk P w r base ts cs := by
  simp only [Value.okWide, ht] at h
  obtain ⟨cs, rfl, h2, ts', h3, _, h4⟩ := h
  rw [hts] at h3
  cases h3
  obtain ⟨cs⟩ := cs
  have hl : cs.length = ts.length := by rw [← hn, ← h2]; rfl
  refine ⟨cs, rfl, CellsOk.of hl fun i u v hu hv => ?_⟩
  obtain ⟨u', k1, k2⟩ := h4 i v (by simpa using hv)
  have hlt := (List.getElem?_eq_some_iff.1 hu).1
  rw [Nat.mod_eq_of_lt hlt, hu] at k1
  cases k1
  exact k2
end

/-- The package-level variables, and a block more. -/
def globInj1 (n : Nat) (B : Blk) : Inj := fun a => if a < n then some ⟨a, 0, 0, 0⟩ else if a = n then some B else none
theorem glob_globs1 {P : Program} {n : Nat} (hn : P.globals.size = n) (B : Blk) : Globs P (globInj1 n B) := fun g hg => ⟨_, if_pos (hn ▸ hg), rfl, rfl⟩
theorem bare_rel1 {w : World} {n m : Nat} {B : Blk} (h : n ≤ w.heap.size) (hB : B.b < w.heap.size) (hm : m = n + 1) : Rel (globInj1 n B) w.heap.size (bare m) w := by
  subst hm
  have hn : ∀ a, (bare (n + 1)).get a = none := fun a => Tr.get_e a
  refine ⟨fun a o h => ?_, fun a a' o o' B B' h => ?_, fun a o B h => ?_, fun a ha => ⟨hn a, ?_⟩, fun a B' h' => ?_, Nat.le_refl _⟩
  · rw [hn a] at h; cases h
  · rw [hn a] at h; cases h
  · rw [hn a] at h; cases h
  · have ha : n + 1 ≤ a := ha
    unfold globInj1
    rw [if_neg (by omega), if_neg (by omega)]
  · unfold globInj1 at h'
    split at h'
    · cases h'; simp only; omega
    · split at h'
      · cases h'; exact hB
      · cases h'
/-- A slice of cells of which nothing is known. -/
theorem VR.dark {m : Nat} {a : Addr} {n c : Nat} (hs : a.spot = none) (hn : n ≤ c) : VR (globInj1 m ⟨a.block, a.off, a.off + c, 1⟩) (.slice (some ⟨m, 0, none⟩) n open_) (.slice (some a) n c) := by
  obtain ⟨b, o, sp⟩ := a
  simp only at hs
  subst hs
  refine .slO (B := ⟨b, o, o + c, 1⟩) ?_ rfl rfl (by simp) hn
  show globInj1 _ _ m = _
  unfold globInj1
  rw [if_neg (by omega), if_pos rfl]
end Go.Ev
