/-
  The example of the layer, half way, written out.
-/
import Derived.Test.YtfacpijihpkdcaaGreatDoorClFresh
import Derived.Test.YtfacpijihpkdcaaGreatDoorEvPart3
set_option linter.unusedVariables false
namespace Go.Proofs.YtfacpijihpkdcaaGreatDoor
open Go Go.Ev
noncomputable section
def half_r0 : List Value := [(ptr 7708 0), (ptr 7780 0), (.slice (some ⟨7807, 0, none⟩) 1 open_), (.slice none 0 0), (num 5), (.slice (some ⟨8581, 0, none⟩) 1 open_), (.slice none 0 0), (.map (some 7759)), (.map (some 7760))]
def half_r1 : List Value := [(.slice (some ⟨7787, 0, none⟩) 1 open_), (num 10), (num 400), (.map (some 7777)), (.map (some 7778)), (num 1)]
def half_r2 : List Value := [(num 1), (num 1), (num 2), (num 1), (num 0), (ptr 8393 0), (.slice (some ⟨8399, 0, none⟩) 44 open_), (num 1), (num 0), (.slice none 0 0), (.bool false), (.slice none 0 0), (num 0), (num 2), (num 0)]
def half_r3 : List Value := [(ptr 7791 0), (.slice none 0 0), (.bool true), (num 0), (num 0), (Ev.strOf []), (.slice none 0 0), (.slice none 0 0), (.bool false)]
def half_r4 : List Value := [(Ev.strOf [109, 107, 100, 105, 114]), (num 2), (num 0), (Ev.strOf [65]), (Ev.strOf []), (num 0), (num 0), (num 0), (.bool false), (.bool false), (.bool false), (.bool false), (num 0), (num 0), (num 0), (num 0), (num 0), (.bool false), (.slice none 0 0)]
def half_r5 : List Value := [(.slice (some ⟨7867, 0, none⟩) 4 open_), (.slice (some ⟨7907, 0, none⟩) 4 open_), (.slice (some ⟨7922, 0, none⟩) 4 4)]
def half_r6 : List Value := (bs [5, 109, 107, 100, 105, 114, 128, 0, 0, 2, 128, 0, 0, 0, 128, 0, 0, 0, 128, 0, 0, 0, 128, 0, 0, 0])
def half_r7 : List Value := [(.slice (some ⟨8141, 0, none⟩) 26 open_), (.slice (some ⟨8168, 0, none⟩) 2 open_), (.slice (some ⟨8172, 0, none⟩) 1 1), (.slice (some ⟨8152, 0, none⟩) 1 1), (.slice (some ⟨7927, 0, none⟩) 12 open_), (.slice (some ⟨8209, 0, none⟩) 2 open_)]
def half_r8 : List Value := (bs [5, 109, 107, 100, 105, 114, 128, 0, 0, 2, 128, 0, 0, 0, 128, 0, 0, 0, 128, 0, 0, 0, 128, 0, 0, 0, 1, 65, 0, 0, 0, 0, 0, 0, 0, 0, 0, 0, 0, 0, 0, 0, 0, 0])
def half_r9 : List Value := [(num 0), (num 1), (num 0), (num 1), (num 1), (.slice none 0 0), (num 0)]
def half_r10 : List Value := [(num 1), (num 0), (.bool false), (num 44), (.slice none 0 0), (.slice none 0 0), (.pointer none), (.slice none 0 0), (num 0), (num 0), (num 3), (num 1)]
def half_r11 : List Value := [(num 1), (num 2), (num 1), (num 0), (num 1), (.slice none 0 0), (num 1)]
def half_r12 : List Value := [(num 0), (num 7), (num 1), (num 0), (num 44), (.slice none 0 0), (num 2)]
def half_r13 : List Value := [(num 1), (num 8), (num 1), (num 0), (num 44), (.slice none 0 0), (num 3)]
def half_r14 : List Value := [(num 9), (num 1), (num 0), (num 0), (.slice (some ⟨8559, 0, none⟩) 44 open_)]
def half_r15 : List Value := [(num 0), (num 9), (num 1), (num 0), (num 0), (.slice (some ⟨8559, 0, none⟩) 44 open_), (num 4)]
def half_new : List (Nat × Ob) := [
 (7759, .map [] 0),
 (7760, .map [((num 1), (num 1))] 1),
 (7762, .cells half_r0 0 .ex),
 (7765, .cells [(num 1)] 0 .ex),
 (7777, .map [((num 1), (ptr 8296 0))] 1),
 (7778, .map [] 0),
 (7780, .cells half_r1 0 .ex),
 (7783, .cells [] 0 .ex),
 (7787, .cells [(num 1)] 262145 .gr),
 (7791, .cells half_r2 0 .ex),
 (7801, .cells half_r3 0 .ex),
 (7802, .cells [(ptr 7801 0)] 0 .ex),
 (7807, .cells [(ptr 7801 0)] 5636097 .gr),
 (7808, .cells half_r4 0 .ex),
 (7810, .cells half_r4 0 .ex),
 (7823, .cells [(num 2), (num 0), (num 0), (num 0), (num 0)] 0 .ex),
 (7825, .cells [(num 0), (num 0), (num 0), (num 0), (num 0), (.bool false)] 0 .ex),
 (7834, .cells (bs [0]) 0 .ex),
 (7837, .dead),
 (7844, .cells (bs [0]) 0 .ex),
 (7847, .dead),
 (7854, .cells (bs [0]) 0 .ex),
 (7857, .dead),
 (7864, .cells (bs [0]) 0 .ex),
 (7867, .cells (bs [0, 0, 0, 0]) 393217 .gr),
 (7874, .cells (bs [0]) 0 .ex),
 (7877, .dead),
 (7884, .cells (bs [0]) 0 .ex),
 (7887, .dead),
 (7894, .cells (bs [0]) 0 .ex),
 (7897, .dead),
 (7904, .cells (bs [0]) 0 .ex),
 (7907, .cells (bs [0, 0, 0, 0]) 393217 .gr),
 (7908, .cells [(num 0), (num 0), (num 0), (num 0), (num 0), (.bool false)] 0 .ex),
 (7922, .cells (bs [0, 0, 0, 0]) 0 .ex),
 (7923, .cells half_r5 0 .ex),
 (7927, .cells (bs [0, 0, 0, 0, 0, 0, 0, 0, 0, 0, 0, 0]) 393217 .gr),
 (7931, .cells (bs [5]) 0 .ex),
 (7936, .dead),
 (7943, .cells (bs [128]) 0 .ex),
 (7946, .dead),
 (7953, .cells (bs [0]) 0 .ex),
 (7956, .dead),
 (7963, .cells (bs [0]) 0 .ex),
 (7966, .dead),
 (7973, .cells (bs [2]) 0 .ex),
 (7976, .cells (bs [128, 0, 0, 2]) 393217 .gr),
 (7977, .dead),
 (7984, .cells (bs [128]) 0 .ex),
 (7987, .dead),
 (7994, .cells (bs [0]) 0 .ex),
 (7997, .dead),
 (8004, .cells (bs [0]) 0 .ex),
 (8007, .dead),
 (8014, .cells (bs [0]) 0 .ex),
 (8017, .cells (bs [128, 0, 0, 0]) 393217 .gr),
 (8018, .dead),
 (8025, .cells (bs [128]) 0 .ex),
 (8028, .dead),
 (8035, .cells (bs [0]) 0 .ex),
 (8038, .dead),
 (8045, .cells (bs [0]) 0 .ex),
 (8048, .dead),
 (8055, .cells (bs [0]) 0 .ex),
 (8058, .cells (bs [128, 0, 0, 0]) 393217 .gr),
 (8059, .dead),
 (8066, .cells (bs [128]) 0 .ex),
 (8069, .dead),
 (8076, .cells (bs [0]) 0 .ex),
 (8079, .dead),
 (8086, .cells (bs [0]) 0 .ex),
 (8089, .dead),
 (8096, .cells (bs [0]) 0 .ex),
 (8099, .cells (bs [128, 0, 0, 0]) 393217 .gr),
 (8100, .dead),
 (8107, .cells (bs [128]) 0 .ex),
 (8110, .dead),
 (8117, .cells (bs [0]) 0 .ex),
 (8120, .dead),
 (8127, .cells (bs [0]) 0 .ex),
 (8130, .dead),
 (8137, .cells (bs [0]) 0 .ex),
 (8140, .cells (bs [128, 0, 0, 0]) 393217 .gr),
 (8141, .cells half_r6 393217 .gr),
 (8152, .cells (bs [0]) 0 .ex),
 (8157, .cells half_r7 0 .ex),
 (8163, .cells (bs [1]) 0 .ex),
 (8168, .cells (bs [1, 65]) 393217 .gr),
 (8172, .cells (bs [0]) 0 .ex),
 (8177, .cells [(.bool false), (.bool false), (.bool false), (.bool false)] 0 .ex),
 (8187, .cells [(.bool false), (.bool false), (.bool false), (.bool false)] 0 .ex),
 (8196, .cells (bs [0]) 0 .ex),
 (8199, .dead),
 (8206, .cells (bs [0]) 0 .ex),
 (8209, .cells (bs [0, 0]) 393217 .gr),
 (8210, .cells half_r8 393217 .gr),
 (8211, .cells [(ptr 7762 0)] 0 .ex),
 (8221, .cells [(num 1), (num 0), (num 1), (num 1), (.slice none 0 0)] 6488064 .ex),
 (8224, .cells [(num 1), (num 0), (num 1), (num 1), (.slice none 0 0)] 6488064 .ex),
 (8226, .cells [(num 1), (num 0), (num 1), (num 1), (.slice none 0 0)] 6488064 .ex),
 (8229, .cells [(num 1), (num 0), (num 1), (num 1), (.slice none 0 0)] 0 .ex),
 (8233, .cells [(num 1), (num 0), (num 1), (num 1), (.slice none 0 0)] 6488064 .ex),
 (8247, .cells half_r9 0 .ex),
 (8252, .dead),
 (8253, .dead),
 (8254, .cells [(ptr 7762 0)] 0 .ex),
 (8256, .cells half_r9 0 .ex),
 (8258, .dead),
 (8265, .cells half_r9 6619136 .ex),
 (8267, .cells half_r9 0 .ex),
 (8268, .cells [(num 1), (num 0), (num 1), (num 1), (.slice none 0 0)] 0 .ex),
 (8271, .cells [(num 1), (num 0), (num 1), (num 1), (.slice none 0 0)] 0 .ex),
 (8276, .cells [(num 2), (num 1), (num 0), (num 1), (.slice none 0 0)] 0 .ex),
 (8279, .cells [(num 1), (num 0), (num 1), (num 1), (.slice none 0 0)] 0 .ex),
 (8280, .cells [(num 2), (num 1), (num 0), (num 1), (.slice none 0 0)] 6488064 .ex),
 (8284, .cells [(num 2), (num 1), (num 0), (num 1), (.slice none 0 0)] 6488064 .ex),
 (8286, .dead),
 (8296, .cells half_r10 0 .ex),
 (8300, .cells [(num 2), (num 1), (num 0), (num 1), (.slice none 0 0)] 6488064 .ex),
 (8305, .cells [(num 2), (num 1), (num 0), (num 1), (.slice none 0 0)] 0 .ex),
 (8309, .cells [(num 2), (num 1), (num 0), (num 1), (.slice none 0 0)] 6488064 .ex),
 (8323, .cells half_r11 0 .ex),
 (8328, .dead),
 (8329, .dead),
 (8332, .cells [(num 1)] 0 .ex),
 (8335, .cells [(num 1)] 262145 .gr),
 (8336, .cells [(ptr 7762 0)] 0 .ex),
 (8338, .cells half_r11 0 .ex),
 (8340, .dead),
 (8343, .cells [(num 1)] 0 .ex),
 (8346, .cells [(num 1)] 262145 .gr),
 (8353, .cells half_r11 6619136 .ex),
 (8355, .cells half_r11 0 .ex),
 (8356, .cells [(num 2), (num 1), (num 0), (num 1), (.slice none 0 0)] 0 .ex),
 (8359, .cells [(num 2), (num 1), (num 0), (num 1), (.slice none 0 0)] 0 .ex),
 (8361, .cells [(num 2), (num 1), (num 0), (num 1), (.slice none 0 0)] 0 .ex),
 (8374, .cells [(num 7), (num 1), (num 0), (num 44), (.slice none 0 0)] 6488064 .ex),
 (8377, .cells [(num 7), (num 1), (num 0), (num 44), (.slice none 0 0)] 6488064 .ex),
 (8379, .cells [(num 7), (num 1), (num 0), (num 44), (.slice none 0 0)] 6488064 .ex),
 (8393, .cells [(num 7), (num 1), (num 0), (num 44), (.slice none 0 0)] 6488064 .ex),
 (8395, .cells [] 0 .ex),
 (8399, .cells half_r8 393217 .gr),
 (8400, .cells [(num 7), (num 1), (num 0), (num 44), (.slice none 0 0)] 0 .ex),
 (8401, .cells [(num 7), (num 1), (num 0), (num 44), (.slice none 0 0)] 6488064 .ex),
 (8404, .cells [(num 7), (num 1), (num 0), (num 44), (.slice none 0 0)] 0 .ex),
 (8408, .cells [(num 7), (num 1), (num 0), (num 44), (.slice none 0 0)] 6488064 .ex),
 (8422, .cells half_r12 0 .ex),
 (8427, .dead),
 (8428, .cells [(ptr 7762 0)] 0 .ex),
 (8430, .cells half_r12 0 .ex),
 (8432, .dead),
 (8435, .cells [(num 1)] 0 .ex),
 (8438, .cells [(num 1)] 262145 .gr),
 (8445, .cells half_r12 6619136 .ex),
 (8447, .cells half_r12 0 .ex),
 (8448, .cells [(num 7), (num 1), (num 0), (num 44), (.slice none 0 0)] 0 .ex),
 (8451, .cells [(num 7), (num 1), (num 0), (num 44), (.slice none 0 0)] 0 .ex),
 (8453, .cells [(num 7), (num 1), (num 0), (num 44), (.slice none 0 0)] 0 .ex),
 (8464, .cells [(num 8), (num 1), (num 0), (num 44), (.slice none 0 0)] 0 .ex),
 (8468, .cells [(num 8), (num 1), (num 0), (num 44), (.slice none 0 0)] 6488064 .ex),
 (8473, .cells [(num 8), (num 1), (num 0), (num 44), (.slice none 0 0)] 0 .ex),
 (8477, .cells [(num 8), (num 1), (num 0), (num 44), (.slice none 0 0)] 6488064 .ex),
 (8491, .cells half_r13 0 .ex),
 (8496, .dead),
 (8497, .dead),
 (8500, .cells [(num 1)] 0 .ex),
 (8503, .cells [(num 1)] 262145 .gr),
 (8504, .cells [(ptr 7762 0)] 0 .ex),
 (8506, .cells half_r13 0 .ex),
 (8508, .dead),
 (8511, .cells [(num 1)] 0 .ex),
 (8514, .cells [(num 1)] 262145 .gr),
 (8521, .cells half_r13 6619136 .ex),
 (8523, .cells half_r13 0 .ex),
 (8524, .cells [(num 8), (num 1), (num 0), (num 44), (.slice none 0 0)] 0 .ex),
 (8527, .cells [(num 8), (num 1), (num 0), (num 44), (.slice none 0 0)] 0 .ex),
 (8552, .cells half_r14 0 .ex),
 (8555, .cells [] 0 .ex),
 (8559, .cells half_r8 393217 .gr),
 (8562, .cells half_r14 6488064 .ex),
 (8576, .cells half_r15 0 .ex),
 (8581, .cells half_r15 6619143 .gr)]
def half_st : St := ⟨setAll fresh_st.heap half_new, 8582⟩
def half_fr : Fr :=
 (.n (some ((.bool false))) (.n (some ((ptr 7708 0))) (tl ((.tuple ⟨[(ptr 7708 0), (ptr 7752 0)]⟩))) (tl ((ptr 7708 0))) (tl ((.agg ⟨[(Ev.strOf [109, 107, 100, 105, 114]), (num 2), (num 0), (Ev.strOf [65]), (Ev.strOf []), (num 0), (num 0), (num 0), (.bool false), (.bool false), (.bool false), (.bool false), (num 0), (num 0), (num 0), (num 0), (num 0), (.bool false), (.slice none 0 0)]⟩))) (tl ((ptr 7762 0))) .e .e .e .e)
 (.n (some ((ptr 7752 0))) (tl ((ptr 7708 0))) (tl ((.bool false))) (tl ((num 0))) (tl ((num 0))) .e .e .e .e)
 (.n (some ((ptr 7762 0))) (tl ((ptr 7752 0))) (tl ((.bool false))) (tl ((.bool false))) .e .e .e .e .e)
 (.n (some ((num 0))) (tl ((.tuple ⟨[(ptr 7762 0), (num 0)]⟩))) (tl ((num 0))) (tl ((.bool false))) .e .e .e .e .e)
 (.n (some ((num 5))) (tl ((ptr 7708 0))) (tl ((.bool false))) (tl ((num 4))) .e .e .e .e .e)
 (.n none (tl ((.tuple ⟨[(ptr 7762 0), (num 0)]⟩))) (tl ((.bool false))) (tl ((.bool true))) .e .e .e .e .e)
 (.n none (tl ((ptr 7762 0))) (tl ((.bool false))) (tl ((num 4))) .e .e .e .e .e)
 (.n (some ((.tuple ⟨[(ptr 7708 0), (ptr 7752 0)]⟩))) (tl ((num 0))) (tl ((ptr 7762 0))) (tl ((num 5))) .e .e .e .e .e)
)

def primsC : List (FuncId × Prim) := (20, pAt 6 [] fresh_v fresh_st) :: primsA
def awakeBody : CCode := Option.rec .no (fun c => c.body) (rFunc Tryz.prog 5)
def awakeR : CCode := (sndN 4 awakeBody).fst.fst
def awakeL : CCode := (sndN 4 awakeBody).fst.snd.inner.inner
def awakeT : CCode := (sndN 4 awakeBody).snd
theorem half_run : (ob (headC (envOf Tryz.prog primsC) 20000 4 awakeBody .e (bare 6)) fun x => ob (headC (envOf Tryz.prog primsC) 20000 1 (.seq awakeR (.block 0 (.loop awakeL))) x.1 x.2) fun y => iterC (envOf Tryz.prog primsC) 20000 awakeL 5 y.1 y.2) = some (half_fr, half_st) := by kernel_rfl
theorem awake_shape : sndN 4 awakeBody = .seq (.seq awakeR (.block 0 (.loop awakeL))) awakeT := by kernel_rfl
theorem awake_code : (envOf Tryz.prog primsC).code 5 = some ⟨51, awakeBody, [.tmp 0]⟩ := by kernel_rfl
theorem awake_prim : (envOf Tryz.prog primsC).prim 5 = none := by kernel_rfl
end
end Go.Proofs.YtfacpijihpkdcaaGreatDoor
