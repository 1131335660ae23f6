/-
  The code of functions as the machine has it, by name; their numbers.
-/
import Derived.Test.YtmpckglmfklfiaaGreatDoorEvPart3
set_option linter.unusedVariables false
namespace Go.Ev
namespace Code
def tithinglaw26_ClientCalls : CFunc := ⟨33,
 (.seq
 (.region 2 ([⟨(some 1), .box 28 (.t 0), none, 0, []⟩,
     ⟨(some 2), .mov (.c (.bool false)), none, 1, []⟩]))
 (.seq
 (.seq
  (.many 0 ([⟨(some 7), .loadN 19 (.t 1), none, 0, []⟩] ++
     (⟨(some 8), .callF 8 [(.t 7)], none, 1, []⟩ ::
     ([]))))
  (.cond (.t 8)
   (.seq
    (.many 0 (⟨(some 9), .callF 9 [], none, 0, []⟩ ::
       ([⟨(some 2), .mov (.t 9), none, 1, []⟩])))
    (.ret))
   (.skip)))
 (.seq
 (.many 0 ([⟨(some 11), .loadN 19 (.t 1), none, 0, []⟩] ++
    (⟨(some 12), .callF 10 [(.t 11)], none, 1, []⟩ ::
    ([⟨(some 10), .mov (.t 12), none, 2, []⟩,
     ⟨(some 13), .extract (.t 10) 0, none, 3, []⟩,
     ⟨(some 14), .extract (.t 10) 1, none, 4, []⟩,
     ⟨(some 3), .mov (.t 13), none, 5, []⟩,
     ⟨(some 4), .mov (.t 14), none, 6, []⟩]))))
 (.seq
 (.many 0 ([⟨(some 16), .loadN 19 (.t 1), none, 0, []⟩] ++
    (⟨(some 17), .callF 11 [(.t 16)], none, 1, []⟩ ::
    ([⟨(some 15), .mov (.t 17), none, 2, []⟩,
     ⟨(some 18), .extract (.t 15) 0, none, 3, []⟩,
     ⟨(some 19), .extract (.t 15) 1, none, 4, []⟩,
     ⟨(some 5), .mov (.t 18), none, 5, []⟩,
     ⟨(some 6), .mov (.t 19), none, 6, []⟩]))))
 (.seq
 (.many 0 ([⟨(some 20), .mov (.t 3), none, 0, []⟩,
     ⟨(some 21), .convBS (.t 20), none, 1, []⟩,
     ⟨(some 22), .mov (.t 5), none, 2, []⟩,
     ⟨(some 23), .convBS (.t 22), none, 3, []⟩,
     ⟨(some 24), .bin .eql (.t 21) (.t 23), none, 4, []⟩,
     ⟨(some 25), .mov (.t 24), none, 5, []⟩,
     ⟨(some 26), .mov (.t 4), (some ((some 25), true)), 6, []⟩,
     ⟨(some 27), .mov (.t 6), (some ((some 25), true)), 7, []⟩,
     ⟨(some 28), .bin .eql (.t 26) (.t 27), (some ((some 25), true)), 8, []⟩,
     ⟨(some 29), .pick (.t 25) (.t 28) (.c (.bool false)), none, 9, []⟩,
     ⟨(some 30), .mov (.t 29), none, 10, []⟩] ++
    (⟨(some 31), .callF 9 [], (some ((some 30), true)), 11, []⟩ ::
    ([⟨(some 32), .pick (.t 30) (.t 31) (.c (.bool false)), none, 12, []⟩,
     ⟨(some 2), .mov (.t 32), none, 13, []⟩]))))
 (.ret)))))),
 [.tmp 2]⟩
def tithinglaw26_LongCall : CFunc := ⟨25,
 (.seq
 (.region 2 ([⟨(some 1), .box 28 (.t 0), none, 0, []⟩,
     ⟨(some 2), .mov (.c (.bool false)), none, 1, []⟩]))
 (.seq
 (.region 0 ([⟨(some 3), .faddr 0 (.t 1), none, 0, []⟩,
     ⟨(some 4), .load1 (.t 3), none, 1, []⟩,
     ⟨(some 5), .lenS (.t 4), none, 2, []⟩,
     ⟨(some 6), .bin .gtr (.t 5) (.c (.int .i64 60)), none, 3, []⟩,
     ⟨(some 7), .mov (.t 6), none, 4, []⟩,
     ⟨(some 8), .faddr 3 (.t 1), (some ((some 7), false)), 5, []⟩,
     ⟨(some 9), .load1 (.t 8), (some ((some 7), false)), 6, []⟩,
     ⟨(some 10), .lenS (.t 9), (some ((some 7), false)), 7, []⟩,
     ⟨(some 11), .bin .gtr (.t 10) (.c (.int .i64 60)), (some ((some 7), false)), 8, []⟩,
     ⟨(some 12), .pick (.t 7) (.c (.bool true)) (.t 11), none, 9, []⟩,
     ⟨(some 13), .mov (.t 12), none, 10, []⟩,
     ⟨(some 14), .faddr 4 (.t 1), (some ((some 13), false)), 11, []⟩,
     ⟨(some 15), .load1 (.t 14), (some ((some 13), false)), 12, []⟩,
     ⟨(some 16), .lenS (.t 15), (some ((some 13), false)), 13, []⟩,
     ⟨(some 17), .bin .gtr (.t 16) (.c (.int .i64 60)), (some ((some 13), false)), 14, []⟩,
     ⟨(some 18), .pick (.t 13) (.c (.bool true)) (.t 17), none, 15, []⟩,
     ⟨(some 19), .mov (.t 18), none, 16, []⟩,
     ⟨(some 20), .faddr 18 (.t 1), (some ((some 19), false)), 17, []⟩,
     ⟨(some 21), .load1 (.t 20), (some ((some 19), false)), 18, []⟩,
     ⟨(some 22), .lenV (.t 21), (some ((some 19), false)), 19, []⟩,
     ⟨(some 23), .bin .gtr (.t 22) (.c (.int .i64 500)), (some ((some 19), false)), 20, []⟩,
     ⟨(some 24), .pick (.t 19) (.c (.bool true)) (.t 23), none, 21, []⟩,
     ⟨(some 2), .mov (.t 24), none, 22, []⟩]))
 (.ret))),
 [.tmp 2]⟩
def client_PutCall_l0 : CCode :=
 (.seq
 (.region 0 ([⟨(some 63), .bin .lss (.t 62) (.t 61), none, 0, []⟩]))
 (.seq
 (.cond (.t 63)
   (.skip)
   (.exit 0))
 (.seq
 (.block 1
   (.seq
    (.region 0 ([⟨(some 64), .iaddrV 1 (.t 60) (.t 62), none, 0, []⟩,
        ⟨(some 65), .load1 (.t 64), none, 1, []⟩,
        ⟨(some 9), .mov (.t 65), none, 2, []⟩]))
    (.many 0 ([⟨(some 66), .mov (.t 7), none, 0, []⟩,
       ⟨(some 67), .mov (.t 9), none, 1, []⟩] ++
      (⟨(some 68), .callF 31 [(.t 67)], none, 2, []⟩ ::
      ([⟨(some 69), .append 5 1 1 (.t 66) (.t 68), none, 3, []⟩,
       ⟨(some 7), .mov (.t 69), none, 4, []⟩]))))))
 (.region 0 ([⟨(some 70), .bin .add (.t 62) (.c (.int .i64 1)), none, 0, []⟩,
    ⟨(some 62), .mov (.t 70), none, 1, []⟩])))))
def client_PutCall : CFunc := ⟨89,
 (.seq
 (.region 3 ([⟨(some 1), .box 28 (.t 0), none, 0, []⟩,
     ⟨(some 2), .mov (.c (.slice none 0 0)), none, 1, []⟩,
     ⟨(some 3), .mov (.c (.int .i64 0)), none, 2, []⟩]))
 (.seq
 (.region 12 ([⟨(some 10), .faddr 1 (.t 1), none, 0, []⟩,
     ⟨(some 11), .load1 (.t 10), none, 1, []⟩,
     ⟨(some 12), .faddr 2 (.t 1), none, 2, []⟩,
     ⟨(some 13), .load1 (.t 12), none, 3, []⟩,
     ⟨(some 14), .faddr 5 (.t 1), none, 4, []⟩,
     ⟨(some 15), .load1 (.t 14), none, 5, []⟩,
     ⟨(some 16), .faddr 6 (.t 1), none, 6, []⟩,
     ⟨(some 17), .load1 (.t 16), none, 7, []⟩,
     ⟨(some 18), .faddr 7 (.t 1), none, 8, []⟩,
     ⟨(some 19), .load1 (.t 18), none, 9, []⟩,
     ⟨(some 20), .buildSlice 3 5 [(.int .i64 0), (.int .i64 0), (.int .i64 0), (.int .i64 0), (.int .i64 0)] [(0, 1, (.t 11)), (1, 1, (.t 13)), (2, 1, (.t 15)), (3, 1, (.t 17)), (4, 1, (.t 19))], none, 10, []⟩,
     ⟨(some 4), .mov (.t 20), none, 11, []⟩]))
 (.seq
 (.many 0 ([⟨(some 22), .faddr 12 (.t 1), none, 0, []⟩,
     ⟨(some 23), .loadN 6 (.t 22), none, 1, []⟩] ++
    (⟨(some 24), .callF 26 [(.t 23)], none, 2, []⟩ ::
    ([⟨(some 21), .mov (.t 24), none, 3, []⟩,
     ⟨(some 25), .extract (.t 21) 0, none, 4, []⟩,
     ⟨(some 26), .extract (.t 21) 1, none, 5, []⟩,
     ⟨(some 5), .mov (.t 25), none, 6, []⟩,
     ⟨(some 6), .mov (.t 26), none, 7, []⟩]))))
 (.seq
 (.seq
  (.many 0 ([⟨(some 27), .mov (.t 6), none, 0, []⟩,
      ⟨(some 28), .bin .neq (.t 27) (.c (.int .i64 0)), none, 1, []⟩,
      ⟨(some 29), .mov (.t 28), none, 2, []⟩,
      ⟨(some 30), .mov (.t 4), (some ((some 29), false)), 3, []⟩] ++
     (⟨(some 31), .callF 27 [(.t 30), (.c (.func (.func 28) ⟨[]⟩ ⟨[]⟩))], (some ((some 29), false)), 4, []⟩ ::
     ([⟨(some 32), .pick (.t 29) (.c (.bool true)) (.t 31), none, 5, []⟩,
      ⟨(some 33), .mov (.t 32), none, 6, []⟩,
      ⟨(some 34), .faddr 0 (.t 1), (some ((some 33), false)), 7, []⟩,
      ⟨(some 35), .load1 (.t 34), (some ((some 33), false)), 8, []⟩,
      ⟨(some 36), .lenS (.t 35), (some ((some 33), false)), 9, []⟩,
      ⟨(some 37), .bin .gtr (.t 36) (.c (.int .i64 31)), (some ((some 33), false)), 10, []⟩,
      ⟨(some 38), .pick (.t 33) (.c (.bool true)) (.t 37), none, 11, []⟩,
      ⟨(some 39), .mov (.t 38), none, 12, []⟩,
      ⟨(some 40), .faddr 3 (.t 1), (some ((some 39), false)), 13, []⟩,
      ⟨(some 41), .load1 (.t 40), (some ((some 39), false)), 14, []⟩,
      ⟨(some 42), .lenS (.t 41), (some ((some 39), false)), 15, []⟩,
      ⟨(some 43), .bin .gtr (.t 42) (.c (.int .i64 31)), (some ((some 39), false)), 16, []⟩,
      ⟨(some 44), .pick (.t 39) (.c (.bool true)) (.t 43), none, 17, []⟩,
      ⟨(some 45), .mov (.t 44), none, 18, []⟩,
      ⟨(some 46), .faddr 4 (.t 1), (some ((some 45), false)), 19, []⟩,
      ⟨(some 47), .load1 (.t 46), (some ((some 45), false)), 20, []⟩,
      ⟨(some 48), .lenS (.t 47), (some ((some 45), false)), 21, []⟩,
      ⟨(some 49), .bin .gtr (.t 48) (.c (.int .i64 31)), (some ((some 45), false)), 22, []⟩,
      ⟨(some 50), .pick (.t 45) (.c (.bool true)) (.t 49), none, 23, []⟩,
      ⟨(some 51), .mov (.t 50), none, 24, []⟩,
      ⟨(some 52), .faddr 18 (.t 1), (some ((some 51), false)), 25, []⟩,
      ⟨(some 53), .load1 (.t 52), (some ((some 51), false)), 26, []⟩,
      ⟨(some 54), .lenV (.t 53), (some ((some 51), false)), 27, []⟩,
      ⟨(some 55), .bin .gtr (.t 54) (.c (.int .i64 200)), (some ((some 51), false)), 28, []⟩,
      ⟨(some 56), .pick (.t 51) (.c (.bool true)) (.t 55), none, 29, []⟩]))))
  (.cond (.t 56)
   (.seq
    (.region 0 ([⟨(some 2), .mov (.c (.slice none 0 0)), none, 0, []⟩,
        ⟨(some 3), .mov (.c (.int .i64 2)), none, 1, []⟩]))
    (.ret))
   (.skip)))
 (.seq
 (.many 0 ([⟨(some 57), .faddr 0 (.t 1), none, 0, []⟩,
     ⟨(some 58), .load1 (.t 57), none, 1, []⟩] ++
    (⟨(some 59), .callF 30 [(.t 58)], none, 2, []⟩ ::
    ([⟨(some 7), .mov (.t 59), none, 3, []⟩]))))
 (.seq
 (.seq
  (.region 0 ([⟨(some 60), .mov (.t 4), none, 0, []⟩,
      ⟨(some 61), .lenV (.t 60), none, 1, []⟩,
      ⟨(some 62), .mov (.c (.int .i64 0)), none, 2, []⟩]))
  (.block 0
   (.loop client_PutCall_l0)))
 (.seq
 (.region 18 ([⟨(some 71), .mov (.t 7), none, 0, []⟩,
     ⟨(some 72), .faddr 3 (.t 1), none, 1, []⟩,
     ⟨(some 73), .load1 (.t 72), none, 2, []⟩,
     ⟨(some 75), .faddr 4 (.t 1), none, 4, []⟩,
     ⟨(some 76), .load1 (.t 75), none, 5, []⟩,
     ⟨(some 78), .faddr 8 (.t 1), none, 7, []⟩,
     ⟨(some 79), .loadN 4 (.t 78), none, 8, []⟩,
     ⟨(some 82), .mov (.t 5), none, 11, []⟩,
     ⟨(some 83), .faddr 18 (.t 1), none, 12, []⟩,
     ⟨(some 84), .load1 (.t 83), none, 13, []⟩] ++
    (⟨(some 74), .callF 30 [(.t 73)], none, 3, [((some 76), .load1 (.t 75), none), ((some 79), .loadN 4 (.t 78), none), ((some 84), .load1 (.t 83), none)]⟩ ::
    (⟨(some 77), .callF 30 [(.t 76)], none, 6, [((some 79), .loadN 4 (.t 78), none), ((some 84), .load1 (.t 83), none)]⟩ ::
    (⟨(some 80), .callF 33 [(.t 79)], none, 9, [((some 84), .load1 (.t 83), none)]⟩ ::
    (⟨(some 85), .callF 34 [(.t 84)], none, 14, []⟩ ::
    ([⟨(some 81), .buildSlice 5 1 [(.int .u8 0)] [(0, 1, (.t 80))], none, 10, []⟩,
     ⟨(some 86), .buildSlice 26 6 [(.slice none 0 0), (.slice none 0 0), (.slice none 0 0), (.slice none 0 0), (.slice none 0 0), (.slice none 0 0)] [(0, 1, (.t 71)), (1, 1, (.t 74)), (2, 1, (.t 77)), (3, 1, (.t 81)), (4, 1, (.t 82)), (5, 1, (.t 85))], none, 15, []⟩] ++
    (⟨(some 87), .callF 32 [(.t 86)], none, 16, []⟩ ::
    ([⟨(some 7), .mov (.t 87), none, 17, []⟩])))))))))
 (.seq
 (.region 0 ([⟨(some 88), .mov (.t 7), none, 0, []⟩,
     ⟨(some 2), .mov (.t 88), none, 1, []⟩,
     ⟨(some 3), .mov (.c (.int .i64 0)), none, 2, []⟩]))
 (.ret))))))))),
 [.tmp 2, .tmp 3]⟩
def tithingref26_PutCall : CFunc := ⟨95,
 (.seq
 (.region 3 ([⟨(some 1), .box 28 (.t 0), none, 0, []⟩,
     ⟨(some 2), .mov (.c (.slice none 0 0)), none, 1, []⟩,
     ⟨(some 3), .mov (.c (.int .i64 0)), none, 2, []⟩]))
 (.seq
 (.region 3 ([⟨(some 7), .build [(.slice none 0 0), (.bool false)] [], none, 0, []⟩,
     ⟨(some 8), .box 69 (.t 7), none, 1, []⟩,
     ⟨(some 4), .mov (.t 8), none, 2, []⟩]))
 (.seq
 (.many 0 ([⟨(some 9), .mov (.t 4), none, 0, []⟩,
     ⟨(some 10), .faddr 0 (.t 1), none, 1, []⟩,
     ⟨(some 11), .load1 (.t 10), none, 2, []⟩] ++
    (⟨(some 12), .callF 35 [(.t 9), (.t 11)], none, 3, []⟩ ::
    ([]))))
 (.seq
 (.many 0 ([⟨(some 13), .mov (.t 4), none, 0, []⟩,
     ⟨(some 14), .faddr 1 (.t 1), none, 1, []⟩,
     ⟨(some 15), .load1 (.t 14), none, 2, []⟩] ++
    (⟨(some 16), .callF 36 [(.t 13), (.t 15)], none, 3, []⟩ ::
    ([]))))
 (.seq
 (.many 0 ([⟨(some 17), .mov (.t 4), none, 0, []⟩,
     ⟨(some 18), .faddr 2 (.t 1), none, 1, []⟩,
     ⟨(some 19), .load1 (.t 18), none, 2, []⟩] ++
    (⟨(some 20), .callF 36 [(.t 17), (.t 19)], none, 3, []⟩ ::
    ([]))))
 (.seq
 (.many 0 ([⟨(some 21), .mov (.t 4), none, 0, []⟩,
     ⟨(some 22), .faddr 5 (.t 1), none, 1, []⟩,
     ⟨(some 23), .load1 (.t 22), none, 2, []⟩] ++
    (⟨(some 24), .callF 36 [(.t 21), (.t 23)], none, 3, []⟩ ::
    ([]))))
 (.seq
 (.many 0 ([⟨(some 25), .mov (.t 4), none, 0, []⟩,
     ⟨(some 26), .faddr 6 (.t 1), none, 1, []⟩,
     ⟨(some 27), .load1 (.t 26), none, 2, []⟩] ++
    (⟨(some 28), .callF 36 [(.t 25), (.t 27)], none, 3, []⟩ ::
    ([]))))
 (.seq
 (.many 0 ([⟨(some 29), .mov (.t 4), none, 0, []⟩,
     ⟨(some 30), .faddr 7 (.t 1), none, 1, []⟩,
     ⟨(some 31), .load1 (.t 30), none, 2, []⟩] ++
    (⟨(some 32), .callF 36 [(.t 29), (.t 31)], none, 3, []⟩ ::
    ([]))))
 (.seq
 (.many 0 ([⟨(some 33), .mov (.t 4), none, 0, []⟩,
     ⟨(some 34), .faddr 3 (.t 1), none, 1, []⟩,
     ⟨(some 35), .load1 (.t 34), none, 2, []⟩] ++
    (⟨(some 36), .callF 35 [(.t 33), (.t 35)], none, 3, []⟩ ::
    ([]))))
 (.seq
 (.many 0 ([⟨(some 37), .mov (.t 4), none, 0, []⟩,
     ⟨(some 38), .faddr 4 (.t 1), none, 1, []⟩,
     ⟨(some 39), .load1 (.t 38), none, 2, []⟩] ++
    (⟨(some 40), .callF 35 [(.t 37), (.t 39)], none, 3, []⟩ ::
    ([]))))
 (.seq
 (.region 13 ([⟨(some 41), .mov (.t 4), none, 0, []⟩,
     ⟨(some 42), .mov (.t 4), none, 1, []⟩,
     ⟨(some 43), .nilCheck (.t 42), none, 2, []⟩,
     ⟨(some 44), .faddr 0 (.t 43), none, 3, []⟩,
     ⟨(some 45), .load1 (.t 44), none, 4, []⟩,
     ⟨(some 46), .faddr 8 (.t 1), none, 5, []⟩,
     ⟨(some 47), .loadN 4 (.t 46), none, 6, []⟩] ++
    (⟨(some 48), .callF 37 [(.t 47)], none, 7, [((some 45), .load1 (.t 44), none)]⟩ ::
    ([⟨(some 49), .buildSlice 5 1 [(.int .u8 0)] [(0, 1, (.t 48))], none, 8, []⟩,
     ⟨(some 50), .append 5 1 1 (.t 45) (.t 49), none, 9, []⟩,
     ⟨(some 51), .nilCheck (.t 41), none, 10, []⟩,
     ⟨(some 52), .faddr 0 (.t 51), none, 11, []⟩,
     ⟨none, .store 1 (.t 52) (.t 50), none, 12, []⟩]))))
 (.seq
 (.many 0 ([⟨(some 54), .faddr 12 (.t 1), none, 0, []⟩,
     ⟨(some 55), .loadN 6 (.t 54), none, 1, []⟩] ++
    (⟨(some 56), .callF 38 [(.t 55)], none, 2, []⟩ ::
    ([⟨(some 53), .mov (.t 56), none, 3, []⟩,
     ⟨(some 57), .extract (.t 53) 0, none, 4, []⟩,
     ⟨(some 58), .extract (.t 53) 1, none, 5, []⟩,
     ⟨(some 5), .mov (.t 57), none, 6, []⟩,
     ⟨(some 6), .mov (.t 58), none, 7, []⟩]))))
 (.seq
 (.region 0 ([⟨(some 59), .mov (.t 4), none, 0, []⟩,
     ⟨(some 60), .mov (.t 4), none, 1, []⟩,
     ⟨(some 61), .nilCheck (.t 60), none, 2, []⟩,
     ⟨(some 62), .faddr 0 (.t 61), none, 3, []⟩,
     ⟨(some 63), .load1 (.t 62), none, 4, []⟩,
     ⟨(some 64), .mov (.t 5), none, 5, []⟩,
     ⟨(some 65), .append 5 1 1 (.t 63) (.t 64), none, 6, []⟩,
     ⟨(some 66), .nilCheck (.t 59), none, 7, []⟩,
     ⟨(some 67), .faddr 0 (.t 66), none, 8, []⟩,
     ⟨none, .store 1 (.t 67) (.t 65), none, 9, []⟩]))
 (.seq
 (.many 0 ([⟨(some 68), .mov (.t 4), none, 0, []⟩,
     ⟨(some 69), .faddr 18 (.t 1), none, 1, []⟩,
     ⟨(some 70), .load1 (.t 69), none, 2, []⟩,
     ⟨(some 71), .lenV (.t 70), none, 3, []⟩] ++
    (⟨(some 72), .callF 39 [(.t 68), (.t 71), (.c (.int .i64 200))], none, 4, []⟩ ::
    ([]))))
 (.seq
 (.region 0 ([⟨(some 73), .mov (.t 4), none, 0, []⟩,
     ⟨(some 74), .mov (.t 4), none, 1, []⟩,
     ⟨(some 75), .nilCheck (.t 74), none, 2, []⟩,
     ⟨(some 76), .faddr 0 (.t 75), none, 3, []⟩,
     ⟨(some 77), .load1 (.t 76), none, 4, []⟩,
     ⟨(some 78), .faddr 18 (.t 1), none, 5, []⟩,
     ⟨(some 79), .load1 (.t 78), none, 6, []⟩,
     ⟨(some 80), .append 5 1 1 (.t 77) (.t 79), none, 7, []⟩,
     ⟨(some 81), .nilCheck (.t 73), none, 8, []⟩,
     ⟨(some 82), .faddr 0 (.t 81), none, 9, []⟩,
     ⟨none, .store 1 (.t 82) (.t 80), none, 10, []⟩]))
 (.seq
 (.seq
  (.region 0 ([⟨(some 83), .mov (.t 4), none, 0, []⟩,
      ⟨(some 84), .nilCheck (.t 83), none, 1, []⟩,
      ⟨(some 85), .faddr 1 (.t 84), none, 2, []⟩,
      ⟨(some 86), .load1 (.t 85), none, 3, []⟩,
      ⟨(some 87), .mov (.t 86), none, 4, []⟩,
      ⟨(some 88), .mov (.t 6), (some ((some 87), false)), 5, []⟩,
      ⟨(some 89), .bin .neq (.t 88) (.c (.int .i64 0)), (some ((some 87), false)), 6, []⟩,
      ⟨(some 90), .pick (.t 87) (.c (.bool true)) (.t 89), none, 7, []⟩]))
  (.cond (.t 90)
   (.seq
    (.region 0 ([⟨(some 2), .mov (.c (.slice none 0 0)), none, 0, []⟩,
        ⟨(some 3), .mov (.c (.int .i64 2)), none, 1, []⟩]))
    (.ret))
   (.skip)))
 (.seq
 (.region 0 ([⟨(some 91), .mov (.t 4), none, 0, []⟩,
     ⟨(some 92), .nilCheck (.t 91), none, 1, []⟩,
     ⟨(some 93), .faddr 0 (.t 92), none, 2, []⟩,
     ⟨(some 94), .load1 (.t 93), none, 3, []⟩,
     ⟨(some 2), .mov (.t 94), none, 4, []⟩,
     ⟨(some 3), .mov (.c (.int .i64 0)), none, 5, []⟩]))
 (.ret)))))))))))))))))),
 [.tmp 2, .tmp 3]⟩
def server_PutRights : CFunc := ⟨49,
 (.seq
 (.region 3 ([⟨(some 1), .box 25 (.t 0), none, 0, []⟩,
     ⟨(some 2), .mov (.c (.slice none 0 0)), none, 1, []⟩,
     ⟨(some 3), .mov (.c (.int .i64 0)), none, 2, []⟩]))
 (.seq
 (.many 0 ([⟨(some 10), .faddr 0 (.t 1), none, 0, []⟩,
     ⟨(some 11), .load1 (.t 10), none, 1, []⟩] ++
    (⟨(some 12), .callF 53 [(.c (.int .i64 4)), (.t 11)], none, 2, []⟩ ::
    ([⟨(some 9), .mov (.t 12), none, 3, []⟩,
     ⟨(some 13), .extract (.t 9) 0, none, 4, []⟩,
     ⟨(some 14), .extract (.t 9) 1, none, 5, []⟩,
     ⟨(some 4), .mov (.t 13), none, 6, []⟩,
     ⟨(some 5), .mov (.t 14), none, 7, []⟩]))))
 (.seq
 (.many 0 ([⟨(some 16), .faddr 1 (.t 1), none, 0, []⟩,
     ⟨(some 17), .load1 (.t 16), none, 1, []⟩] ++
    (⟨(some 18), .callF 53 [(.c (.int .i64 4)), (.t 17)], none, 2, []⟩ ::
    ([⟨(some 15), .mov (.t 18), none, 3, []⟩,
     ⟨(some 19), .extract (.t 15) 0, none, 4, []⟩,
     ⟨(some 20), .extract (.t 15) 1, none, 5, []⟩,
     ⟨(some 6), .mov (.t 19), none, 6, []⟩,
     ⟨(some 7), .mov (.t 20), none, 7, []⟩]))))
 (.seq
 (.seq
  (.many 0 ([⟨(some 21), .loadN 6 (.t 1), none, 0, []⟩] ++
     (⟨(some 22), .callF 78 [(.t 21)], none, 1, []⟩ ::
     ([⟨(some 23), .un .not (.t 22), none, 2, []⟩,
      ⟨(some 24), .mov (.t 23), none, 3, []⟩,
      ⟨(some 25), .mov (.t 5), (some ((some 24), false)), 4, []⟩,
      ⟨(some 26), .bin .neq (.t 25) (.c (.int .i64 0)), (some ((some 24), false)), 5, []⟩,
      ⟨(some 27), .pick (.t 24) (.c (.bool true)) (.t 26), none, 6, []⟩,
      ⟨(some 28), .mov (.t 27), none, 7, []⟩,
      ⟨(some 29), .mov (.t 7), (some ((some 28), false)), 8, []⟩,
      ⟨(some 30), .bin .neq (.t 29) (.c (.int .i64 0)), (some ((some 28), false)), 9, []⟩,
      ⟨(some 31), .pick (.t 28) (.c (.bool true)) (.t 30), none, 10, []⟩]))))
  (.cond (.t 31)
   (.seq
    (.region 0 ([⟨(some 2), .mov (.c (.slice none 0 0)), none, 0, []⟩,
        ⟨(some 3), .mov (.c (.int .i64 2)), none, 1, []⟩]))
    (.ret))
   (.skip)))
 (.seq
 (.region 0 ([⟨(some 8), .mov (.c (.int .u8 0)), none, 0, []⟩]))
 (.seq
 (.seq
  (.region 0 ([⟨(some 32), .faddr 5 (.t 1), none, 0, []⟩,
      ⟨(some 33), .load1 (.t 32), none, 1, []⟩]))
  (.cond (.t 33)
   (.region 0 ([⟨(some 8), .mov (.c (.int .u8 1)), none, 0, []⟩]))
   (.skip)))
 (.seq
 (.many 17 ([⟨(some 34), .mov (.t 4), none, 0, []⟩,
     ⟨(some 35), .mov (.t 6), none, 1, []⟩,
     ⟨(some 36), .faddr 2 (.t 1), none, 2, []⟩,
     ⟨(some 37), .load1 (.t 36), none, 3, []⟩,
     ⟨(some 38), .convI .u8 (.t 37), none, 4, []⟩,
     ⟨(some 39), .faddr 3 (.t 1), none, 5, []⟩,
     ⟨(some 40), .load1 (.t 39), none, 6, []⟩,
     ⟨(some 41), .convI .u8 (.t 40), none, 7, []⟩,
     ⟨(some 42), .faddr 4 (.t 1), none, 8, []⟩,
     ⟨(some 43), .load1 (.t 42), none, 9, []⟩,
     ⟨(some 44), .convI .u8 (.t 43), none, 10, []⟩,
     ⟨(some 45), .mov (.t 8), none, 11, []⟩,
     ⟨(some 46), .buildSlice 5 4 [(.int .u8 0), (.int .u8 0), (.int .u8 0), (.int .u8 0)] [(0, 1, (.t 38)), (1, 1, (.t 41)), (2, 1, (.t 44)), (3, 1, (.t 45))], none, 12, []⟩,
     ⟨(some 47), .buildSlice 26 3 [(.slice none 0 0), (.slice none 0 0), (.slice none 0 0)] [(0, 1, (.t 34)), (1, 1, (.t 35)), (2, 1, (.t 46))], none, 13, []⟩] ++
    (⟨(some 48), .callF 32 [(.t 47)], none, 14, []⟩ ::
    ([⟨(some 2), .mov (.t 48), none, 15, []⟩,
     ⟨(some 3), .mov (.c (.int .i64 0)), none, 16, []⟩]))))
 (.ret)))))))),
 [.tmp 2, .tmp 3]⟩
def slices_ContainsFunc_int_int : CFunc := ⟨9,
 (.seq
 (.region 0 ([⟨(some 4), .mov (.c (.bool false)), none, 0, []⟩]))
 (.seq
 (.many 0 ([⟨(some 5), .mov (.t 0), none, 0, []⟩,
     ⟨(some 6), .mov (.t 1), none, 1, []⟩] ++
    (⟨(some 7), .callF 79 [(.t 5), (.t 6)], none, 2, []⟩ ::
    ([⟨(some 8), .bin .geq (.t 7) (.c (.int .i64 0)), none, 3, []⟩,
     ⟨(some 4), .mov (.t 8), none, 4, []⟩]))))
 (.ret))),
 [.tmp 4]⟩
def client_PutCall_1 : CFunc := ⟨6,
 (.seq
 (.region 0 ([⟨(some 2), .mov (.c (.bool false)), none, 0, []⟩]))
 (.seq
 (.many 0 ([⟨(some 3), .mov (.t 0), none, 0, []⟩] ++
    (⟨(some 4), .callF 29 [(.t 3)], none, 1, []⟩ ::
    ([⟨(some 5), .un .not (.t 4), none, 2, []⟩,
     ⟨(some 2), .mov (.t 5), none, 3, []⟩]))))
 (.ret))),
 [.tmp 2]⟩
def client_isNumber : CFunc := ⟨9,
 (.seq
 (.region 0 ([⟨(some 2), .mov (.c (.bool false)), none, 0, []⟩]))
 (.seq
 (.region 0 ([⟨(some 3), .mov (.t 0), none, 0, []⟩,
     ⟨(some 4), .bin .geq (.t 3) (.c (.int .i64 (-2147483648))), none, 1, []⟩,
     ⟨(some 5), .mov (.t 4), none, 2, []⟩,
     ⟨(some 6), .mov (.t 0), (some ((some 5), true)), 3, []⟩,
     ⟨(some 7), .bin .lss (.t 6) (.c (.int .i64 2147483648)), (some ((some 5), true)), 4, []⟩,
     ⟨(some 8), .pick (.t 5) (.t 7) (.c (.bool false)), none, 5, []⟩,
     ⟨(some 2), .mov (.t 8), none, 6, []⟩]))
 (.ret))),
 [.tmp 2]⟩
def client_counted : CFunc := ⟨11,
 (.seq
 (.region 0 ([⟨(some 2), .mov (.c (.slice none 0 0)), none, 0, []⟩]))
 (.seq
 (.many 0 ([⟨(some 6), .mov (.t 0), none, 0, []⟩] ++
    (⟨(some 7), .callF 80 [(.t 6)], none, 1, []⟩ ::
    ([⟨(some 5), .mov (.t 7), none, 2, []⟩,
     ⟨(some 8), .extract (.t 5) 0, none, 3, []⟩,
     ⟨(some 9), .extract (.t 5) 1, none, 4, []⟩,
     ⟨(some 3), .mov (.t 8), none, 5, []⟩,
     ⟨(some 4), .mov (.t 9), none, 6, []⟩]))))
 (.seq
 (.region 0 ([⟨(some 10), .mov (.t 3), none, 0, []⟩,
     ⟨(some 2), .mov (.t 10), none, 1, []⟩]))
 (.ret)))),
 [.tmp 2]⟩
def client_number : CFunc := ⟨12,
 (.seq
 (.region 0 ([⟨(some 2), .mov (.c (.slice none 0 0)), none, 0, []⟩]))
 (.seq
 (.many 0 ([⟨(some 6), .mov (.t 0), none, 0, []⟩,
     ⟨(some 7), .bin .add (.t 6) (.c (.int .i64 2147483648)), none, 1, []⟩] ++
    (⟨(some 8), .callF 53 [(.c (.int .i64 4)), (.t 7)], none, 2, []⟩ ::
    ([⟨(some 5), .mov (.t 8), none, 3, []⟩,
     ⟨(some 9), .extract (.t 5) 0, none, 4, []⟩,
     ⟨(some 10), .extract (.t 5) 1, none, 5, []⟩,
     ⟨(some 3), .mov (.t 9), none, 6, []⟩,
     ⟨(some 4), .mov (.t 10), none, 7, []⟩]))))
 (.seq
 (.region 0 ([⟨(some 11), .mov (.t 3), none, 0, []⟩,
     ⟨(some 2), .mov (.t 11), none, 1, []⟩]))
 (.ret)))),
 [.tmp 2]⟩
def slices_Concat_byte_byte_l0 : CCode :=
 (.seq
 (.region 0 ([⟨(some 12), .bin .lss (.t 11) (.t 10), none, 0, []⟩]))
 (.seq
 (.cond (.t 12)
   (.skip)
   (.exit 0))
 (.seq
 (.block 1
   (.seq
    (.region 0 ([⟨(some 13), .iaddrV 1 (.t 9) (.t 11), none, 0, []⟩,
        ⟨(some 14), .load1 (.t 13), none, 1, []⟩,
        ⟨(some 5), .mov (.t 14), none, 2, []⟩]))
    (.seq
    (.region 0 ([⟨(some 15), .mov (.t 3), none, 0, []⟩,
        ⟨(some 16), .mov (.t 5), none, 1, []⟩,
        ⟨(some 17), .lenV (.t 16), none, 2, []⟩,
        ⟨(some 18), .bin .add (.t 15) (.t 17), none, 3, []⟩,
        ⟨(some 3), .mov (.t 18), none, 4, []⟩]))
    (.seq
    (.region 0 ([⟨(some 19), .mov (.t 3), none, 0, []⟩,
        ⟨(some 20), .bin .lss (.t 19) (.c (.int .i64 0)), none, 1, []⟩]))
    (.cond (.t 20)
     (.no)
     (.skip))))))
 (.region 0 ([⟨(some 22), .bin .add (.t 11) (.c (.int .i64 1)), none, 0, []⟩,
    ⟨(some 11), .mov (.t 22), none, 1, []⟩])))))
def slices_Concat_byte_byte_l1 : CCode :=
 (.seq
 (.region 0 ([⟨(some 28), .bin .lss (.t 27) (.t 26), none, 0, []⟩]))
 (.seq
 (.cond (.t 28)
   (.skip)
   (.exit 2))
 (.seq
 (.block 3
   (.seq
    (.region 0 ([⟨(some 29), .iaddrV 1 (.t 25) (.t 27), none, 0, []⟩,
        ⟨(some 30), .load1 (.t 29), none, 1, []⟩,
        ⟨(some 8), .mov (.t 30), none, 2, []⟩]))
    (.region 0 ([⟨(some 31), .mov (.t 6), none, 0, []⟩,
       ⟨(some 32), .mov (.t 8), none, 1, []⟩,
       ⟨(some 33), .append 5 1 1 (.t 31) (.t 32), none, 2, []⟩,
       ⟨(some 6), .mov (.t 33), none, 3, []⟩]))))
 (.region 0 ([⟨(some 34), .bin .add (.t 27) (.c (.int .i64 1)), none, 0, []⟩,
    ⟨(some 27), .mov (.t 34), none, 1, []⟩])))))
def slices_Concat_byte_byte : CFunc := ⟨36,
 (.seq
 (.region 0 ([⟨(some 2), .mov (.c (.slice none 0 0)), none, 0, []⟩]))
 (.seq
 (.region 0 ([⟨(some 3), .mov (.c (.int .i64 0)), none, 0, []⟩]))
 (.seq
 (.seq
  (.region 0 ([⟨(some 9), .mov (.t 0), none, 0, []⟩,
      ⟨(some 10), .lenV (.t 9), none, 1, []⟩,
      ⟨(some 11), .mov (.c (.int .i64 0)), none, 2, []⟩]))
  (.block 0
   (.loop slices_Concat_byte_byte_l0)))
 (.seq
 (.many 0 ([⟨(some 23), .mov (.t 3), none, 0, []⟩] ++
    (⟨(some 24), .callF 81 [(.c (.slice none 0 0)), (.t 23)], none, 1, []⟩ ::
    ([⟨(some 6), .mov (.t 24), none, 2, []⟩]))))
 (.seq
 (.seq
  (.region 0 ([⟨(some 25), .mov (.t 0), none, 0, []⟩,
      ⟨(some 26), .lenV (.t 25), none, 1, []⟩,
      ⟨(some 27), .mov (.c (.int .i64 0)), none, 2, []⟩]))
  (.block 2
   (.loop slices_Concat_byte_byte_l1)))
 (.seq
 (.region 0 ([⟨(some 35), .mov (.t 6), none, 0, []⟩,
     ⟨(some 2), .mov (.t 35), none, 1, []⟩]))
 (.ret))))))),
 [.tmp 2]⟩
def client_modeByte_l0 : CCode :=
 (.seq
 (.region 0 ([⟨(some 17), .bin .lss (.t 16) (.t 15), none, 0, []⟩]))
 (.seq
 (.cond (.t 17)
   (.skip)
   (.exit 0))
 (.seq
 (.block 1
   (.seq
    (.region 0 ([⟨(some 18), .mov (.t 16), none, 0, []⟩,
        ⟨(some 19), .iaddrV 1 (.t 14) (.t 16), none, 1, []⟩,
        ⟨(some 20), .load1 (.t 19), none, 2, []⟩,
        ⟨(some 4), .mov (.t 18), none, 3, []⟩,
        ⟨(some 5), .mov (.t 20), none, 4, []⟩]))
    (.seq
    (.region 0 ([⟨(some 21), .mov (.t 5), none, 0, []⟩]))
    (.cond (.t 21)
     (.region 0 ([⟨(some 22), .mov (.t 3), none, 0, []⟩,
         ⟨(some 23), .mov (.t 4), none, 1, []⟩,
         ⟨(some 24), .bin .shl (.c (.int .u8 1)) (.t 23), none, 2, []⟩,
         ⟨(some 25), .bin .or (.t 22) (.t 24), none, 3, []⟩,
         ⟨(some 3), .mov (.t 25), none, 4, []⟩]))
     (.skip)))))
 (.region 0 ([⟨(some 26), .bin .add (.t 16) (.c (.int .i64 1)), none, 0, []⟩,
    ⟨(some 16), .mov (.t 26), none, 1, []⟩])))))
def client_modeByte : CFunc := ⟨28,
 (.seq
 (.region 2 ([⟨(some 1), .box 23 (.t 0), none, 0, []⟩,
     ⟨(some 2), .mov (.c (.int .u8 0)), none, 1, []⟩]))
 (.seq
 (.region 0 ([⟨(some 3), .mov (.c (.int .u8 0)), none, 0, []⟩]))
 (.seq
 (.seq
  (.region 11 ([⟨(some 6), .faddr 0 (.t 1), none, 0, []⟩,
      ⟨(some 7), .load1 (.t 6), none, 1, []⟩,
      ⟨(some 8), .faddr 1 (.t 1), none, 2, []⟩,
      ⟨(some 9), .load1 (.t 8), none, 3, []⟩,
      ⟨(some 10), .faddr 2 (.t 1), none, 4, []⟩,
      ⟨(some 11), .load1 (.t 10), none, 5, []⟩,
      ⟨(some 12), .faddr 3 (.t 1), none, 6, []⟩,
      ⟨(some 13), .load1 (.t 12), none, 7, []⟩,
      ⟨(some 14), .buildSlice 4 4 [(.bool false), (.bool false), (.bool false), (.bool false)] [(0, 1, (.t 7)), (1, 1, (.t 9)), (2, 1, (.t 11)), (3, 1, (.t 13))], none, 8, []⟩,
      ⟨(some 15), .lenV (.t 14), none, 9, []⟩,
      ⟨(some 16), .mov (.c (.int .i64 0)), none, 10, []⟩]))
  (.block 0
   (.loop client_modeByte_l0)))
 (.seq
 (.region 0 ([⟨(some 27), .mov (.t 3), none, 0, []⟩,
     ⟨(some 2), .mov (.t 27), none, 1, []⟩]))
 (.ret))))),
 [.tmp 2]⟩
def client_long : CFunc := ⟨14,
 (.seq
 (.region 0 ([⟨(some 2), .mov (.c (.slice none 0 0)), none, 0, []⟩]))
 (.seq
 (.many 0 ([⟨(some 6), .mov (.t 0), none, 0, []⟩,
     ⟨(some 7), .lenV (.t 6), none, 1, []⟩] ++
    (⟨(some 8), .callF 53 [(.c (.int .i64 2)), (.t 7)], none, 2, []⟩ ::
    ([⟨(some 5), .mov (.t 8), none, 3, []⟩,
     ⟨(some 9), .extract (.t 5) 0, none, 4, []⟩,
     ⟨(some 10), .extract (.t 5) 1, none, 5, []⟩,
     ⟨(some 3), .mov (.t 9), none, 6, []⟩,
     ⟨(some 4), .mov (.t 10), none, 7, []⟩]))))
 (.seq
 (.region 0 ([⟨(some 11), .mov (.t 3), none, 0, []⟩,
     ⟨(some 12), .mov (.t 0), none, 1, []⟩,
     ⟨(some 13), .append 5 1 1 (.t 11) (.t 12), none, 2, []⟩,
     ⟨(some 2), .mov (.t 13), none, 3, []⟩]))
 (.ret)))),
 [.tmp 2]⟩
def _tithing_tithingref26_writer_text : CFunc := ⟨37,
 (.seq
 (.region 0 ([⟨(some 4), .mov (.t 0), none, 0, []⟩,
     ⟨(some 5), .mov (.t 0), none, 1, []⟩,
     ⟨(some 6), .nilCheck (.t 5), none, 2, []⟩,
     ⟨(some 7), .faddr 1 (.t 6), none, 3, []⟩,
     ⟨(some 8), .load1 (.t 7), none, 4, []⟩,
     ⟨(some 9), .mov (.t 8), none, 5, []⟩,
     ⟨(some 10), .mov (.t 1), (some ((some 9), false)), 6, []⟩,
     ⟨(some 11), .lenS (.t 10), (some ((some 9), false)), 7, []⟩,
     ⟨(some 12), .bin .gtr (.t 11) (.c (.int .i64 31)), (some ((some 9), false)), 8, []⟩,
     ⟨(some 13), .pick (.t 9) (.c (.bool true)) (.t 12), none, 9, []⟩,
     ⟨(some 14), .nilCheck (.t 4), none, 10, []⟩,
     ⟨(some 15), .faddr 1 (.t 14), none, 11, []⟩,
     ⟨none, .store 1 (.t 15) (.t 13), none, 12, []⟩]))
 (.seq
 (.region 13 ([⟨(some 16), .mov (.t 0), none, 0, []⟩,
     ⟨(some 17), .mov (.t 0), none, 1, []⟩,
     ⟨(some 18), .nilCheck (.t 17), none, 2, []⟩,
     ⟨(some 19), .faddr 0 (.t 18), none, 3, []⟩,
     ⟨(some 20), .load1 (.t 19), none, 4, []⟩,
     ⟨(some 21), .mov (.t 1), none, 5, []⟩,
     ⟨(some 22), .lenS (.t 21), none, 6, []⟩,
     ⟨(some 23), .convI .u8 (.t 22), none, 7, []⟩,
     ⟨(some 24), .buildSlice 5 1 [(.int .u8 0)] [(0, 1, (.t 23))], none, 8, []⟩,
     ⟨(some 25), .append 5 1 1 (.t 20) (.t 24), none, 9, []⟩,
     ⟨(some 26), .nilCheck (.t 16), none, 10, []⟩,
     ⟨(some 27), .faddr 0 (.t 26), none, 11, []⟩,
     ⟨none, .store 1 (.t 27) (.t 25), none, 12, []⟩]))
 (.region 0 ([⟨(some 28), .mov (.t 0), none, 0, []⟩,
    ⟨(some 29), .mov (.t 0), none, 1, []⟩,
    ⟨(some 30), .nilCheck (.t 29), none, 2, []⟩,
    ⟨(some 31), .faddr 0 (.t 30), none, 3, []⟩,
    ⟨(some 32), .load1 (.t 31), none, 4, []⟩,
    ⟨(some 33), .mov (.t 1), none, 5, []⟩,
    ⟨(some 34), .append 5 1 1 (.t 32) (.t 33), none, 6, []⟩,
    ⟨(some 35), .nilCheck (.t 28), none, 7, []⟩,
    ⟨(some 36), .faddr 0 (.t 35), none, 8, []⟩,
    ⟨none, .store 1 (.t 36) (.t 34), none, 9, []⟩])))),
 []⟩
def _tithing_tithingref26_writer_four : CFunc := ⟨46,
 (.seq
 (.region 0 ([⟨(some 4), .mov (.t 0), none, 0, []⟩,
     ⟨(some 5), .mov (.t 0), none, 1, []⟩,
     ⟨(some 6), .nilCheck (.t 5), none, 2, []⟩,
     ⟨(some 7), .faddr 1 (.t 6), none, 3, []⟩,
     ⟨(some 8), .load1 (.t 7), none, 4, []⟩,
     ⟨(some 9), .mov (.t 8), none, 5, []⟩,
     ⟨(some 10), .mov (.t 1), (some ((some 9), false)), 6, []⟩,
     ⟨(some 11), .bin .lss (.t 10) (.c (.int .i64 (-2147483648))), (some ((some 9), false)), 7, []⟩,
     ⟨(some 12), .pick (.t 9) (.c (.bool true)) (.t 11), none, 8, []⟩,
     ⟨(some 13), .mov (.t 12), none, 9, []⟩,
     ⟨(some 14), .mov (.t 1), (some ((some 13), false)), 10, []⟩,
     ⟨(some 15), .bin .geq (.t 14) (.c (.int .i64 2147483648)), (some ((some 13), false)), 11, []⟩,
     ⟨(some 16), .pick (.t 13) (.c (.bool true)) (.t 15), none, 12, []⟩,
     ⟨(some 17), .nilCheck (.t 4), none, 13, []⟩,
     ⟨(some 18), .faddr 1 (.t 17), none, 14, []⟩,
     ⟨none, .store 1 (.t 18) (.t 16), none, 15, []⟩]))
 (.seq
 (.region 0 ([⟨(some 19), .mov (.t 1), none, 0, []⟩,
     ⟨(some 20), .minmax false [(.c (.int .i64 2147483647)), (.t 19)], none, 1, []⟩,
     ⟨(some 21), .minmax true [(.c (.int .i64 (-2147483648))), (.t 20)], none, 2, []⟩,
     ⟨(some 22), .bin .add (.t 21) (.c (.int .i64 2147483648)), none, 3, []⟩,
     ⟨(some 1), .mov (.t 22), none, 4, []⟩]))
 (.region 24 ([⟨(some 23), .mov (.t 0), none, 0, []⟩,
    ⟨(some 24), .mov (.t 0), none, 1, []⟩,
    ⟨(some 25), .nilCheck (.t 24), none, 2, []⟩,
    ⟨(some 26), .faddr 0 (.t 25), none, 3, []⟩,
    ⟨(some 27), .load1 (.t 26), none, 4, []⟩,
    ⟨(some 28), .mov (.t 1), none, 5, []⟩,
    ⟨(some 29), .bin .quo (.t 28) (.c (.int .i64 16777216)), none, 6, []⟩,
    ⟨(some 30), .convI .u8 (.t 29), none, 7, []⟩,
    ⟨(some 31), .mov (.t 1), none, 8, []⟩,
    ⟨(some 32), .bin .quo (.t 31) (.c (.int .i64 65536)), none, 9, []⟩,
    ⟨(some 33), .bin .rem (.t 32) (.c (.int .i64 256)), none, 10, []⟩,
    ⟨(some 34), .convI .u8 (.t 33), none, 11, []⟩,
    ⟨(some 35), .mov (.t 1), none, 12, []⟩,
    ⟨(some 36), .bin .quo (.t 35) (.c (.int .i64 256)), none, 13, []⟩,
    ⟨(some 37), .bin .rem (.t 36) (.c (.int .i64 256)), none, 14, []⟩,
    ⟨(some 38), .convI .u8 (.t 37), none, 15, []⟩,
    ⟨(some 39), .mov (.t 1), none, 16, []⟩,
    ⟨(some 40), .bin .rem (.t 39) (.c (.int .i64 256)), none, 17, []⟩,
    ⟨(some 41), .convI .u8 (.t 40), none, 18, []⟩,
    ⟨(some 42), .buildSlice 5 4 [(.int .u8 0), (.int .u8 0), (.int .u8 0), (.int .u8 0)] [(0, 1, (.t 30)), (1, 1, (.t 34)), (2, 1, (.t 38)), (3, 1, (.t 41))], none, 19, []⟩,
    ⟨(some 43), .append 5 1 1 (.t 27) (.t 42), none, 20, []⟩,
    ⟨(some 44), .nilCheck (.t 23), none, 21, []⟩,
    ⟨(some 45), .faddr 0 (.t 44), none, 22, []⟩,
    ⟨none, .store 1 (.t 45) (.t 43), none, 23, []⟩])))),
 []⟩
def tithingref26_mode_l0 : CCode :=
 (.seq
 (.seq
  (.region 0 ([⟨(some 15), .mov (.t 5), none, 0, []⟩,
      ⟨(some 16), .bin .geq (.t 15) (.c (.int .i64 0)), none, 1, []⟩]))
  (.cond (.t 16)
   (.skip)
   (.exit 0)))
 (.seq
 (.block 1
   (.seq
    (.region 0 ([⟨(some 19), .mov (.t 3), none, 0, []⟩,
        ⟨(some 20), .bin .mul (.t 19) (.c (.int .u8 2)), none, 1, []⟩,
        ⟨(some 3), .mov (.t 20), none, 2, []⟩]))
    (.seq
    (.region 0 ([⟨(some 21), .mov (.t 4), none, 0, []⟩,
        ⟨(some 22), .mov (.t 5), none, 1, []⟩,
        ⟨(some 23), .iaddrV 1 (.t 21) (.t 22), none, 2, []⟩,
        ⟨(some 24), .load1 (.t 23), none, 3, []⟩]))
    (.cond (.t 24)
     (.region 0 ([⟨(some 25), .mov (.t 3), none, 0, []⟩,
         ⟨(some 26), .bin .add (.t 25) (.c (.int .u8 1)), none, 1, []⟩,
         ⟨(some 3), .mov (.t 26), none, 2, []⟩]))
     (.skip)))))
 (.region 0 ([⟨(some 17), .mov (.t 5), none, 0, []⟩,
    ⟨(some 18), .bin .sub (.t 17) (.c (.int .i64 1)), none, 1, []⟩,
    ⟨(some 5), .mov (.t 18), none, 2, []⟩]))))
def tithingref26_mode : CFunc := ⟨28,
 (.seq
 (.region 2 ([⟨(some 1), .box 23 (.t 0), none, 0, []⟩,
     ⟨(some 2), .mov (.c (.int .u8 0)), none, 1, []⟩]))
 (.seq
 (.region 0 ([⟨(some 3), .mov (.c (.int .u8 0)), none, 0, []⟩]))
 (.seq
 (.region 10 ([⟨(some 6), .faddr 0 (.t 1), none, 0, []⟩,
     ⟨(some 7), .load1 (.t 6), none, 1, []⟩,
     ⟨(some 8), .faddr 1 (.t 1), none, 2, []⟩,
     ⟨(some 9), .load1 (.t 8), none, 3, []⟩,
     ⟨(some 10), .faddr 2 (.t 1), none, 4, []⟩,
     ⟨(some 11), .load1 (.t 10), none, 5, []⟩,
     ⟨(some 12), .faddr 3 (.t 1), none, 6, []⟩,
     ⟨(some 13), .load1 (.t 12), none, 7, []⟩,
     ⟨(some 14), .buildSlice 4 4 [(.bool false), (.bool false), (.bool false), (.bool false)] [(0, 1, (.t 7)), (1, 1, (.t 9)), (2, 1, (.t 11)), (3, 1, (.t 13))], none, 8, []⟩,
     ⟨(some 4), .mov (.t 14), none, 9, []⟩]))
 (.seq
 (.seq
  (.region 0 ([⟨(some 5), .mov (.c (.int .i64 3)), none, 0, []⟩]))
  (.block 0
   (.loop tithingref26_mode_l0)))
 (.seq
 (.region 0 ([⟨(some 27), .mov (.t 3), none, 0, []⟩,
     ⟨(some 2), .mov (.t 27), none, 1, []⟩]))
 (.ret)))))),
 [.tmp 2]⟩
def tithingref25_PutRights : CFunc := ⟨39,
 (.seq
 (.region 3 ([⟨(some 1), .box 25 (.t 0), none, 0, []⟩,
     ⟨(some 2), .mov (.c (.slice none 0 0)), none, 1, []⟩,
     ⟨(some 3), .mov (.c (.int .i64 0)), none, 2, []⟩]))
 (.seq
 (.seq
  (.many 0 ([⟨(some 5), .loadN 6 (.t 1), none, 0, []⟩] ++
     (⟨(some 6), .callF 82 [(.t 5)], none, 1, []⟩ ::
     ([⟨(some 7), .un .not (.t 6), none, 2, []⟩,
      ⟨(some 8), .mov (.t 7), none, 3, []⟩,
      ⟨(some 9), .faddr 0 (.t 1), (some ((some 8), false)), 4, []⟩,
      ⟨(some 10), .load1 (.t 9), (some ((some 8), false)), 5, []⟩,
      ⟨(some 11), .bin .gtr (.t 10) (.c (.int .i64 4294967295)), (some ((some 8), false)), 6, []⟩,
      ⟨(some 12), .pick (.t 8) (.c (.bool true)) (.t 11), none, 7, []⟩,
      ⟨(some 13), .mov (.t 12), none, 8, []⟩,
      ⟨(some 14), .faddr 1 (.t 1), (some ((some 13), false)), 9, []⟩,
      ⟨(some 15), .load1 (.t 14), (some ((some 13), false)), 10, []⟩,
      ⟨(some 16), .bin .gtr (.t 15) (.c (.int .i64 4294967295)), (some ((some 13), false)), 11, []⟩,
      ⟨(some 17), .pick (.t 13) (.c (.bool true)) (.t 16), none, 12, []⟩]))))
  (.cond (.t 17)
   (.seq
    (.region 0 ([⟨(some 2), .mov (.c (.slice none 0 0)), none, 0, []⟩,
        ⟨(some 3), .mov (.c (.int .i64 2)), none, 1, []⟩]))
    (.ret))
   (.skip)))
 (.seq
 (.region 0 ([⟨(some 4), .mov (.c (.int .u8 0)), none, 0, []⟩]))
 (.seq
 (.seq
  (.region 0 ([⟨(some 18), .faddr 5 (.t 1), none, 0, []⟩,
      ⟨(some 19), .load1 (.t 18), none, 1, []⟩]))
  (.cond (.t 19)
   (.region 0 ([⟨(some 4), .mov (.c (.int .u8 1)), none, 0, []⟩]))
   (.skip)))
 (.seq
 (.region 21 ([⟨(some 20), .faddr 0 (.t 1), none, 0, []⟩,
     ⟨(some 21), .load1 (.t 20), none, 1, []⟩,
     ⟨(some 23), .faddr 1 (.t 1), none, 3, []⟩,
     ⟨(some 24), .load1 (.t 23), none, 4, []⟩,
     ⟨(some 27), .faddr 2 (.t 1), none, 7, []⟩,
     ⟨(some 28), .load1 (.t 27), none, 8, []⟩,
     ⟨(some 29), .convI .u8 (.t 28), none, 9, []⟩,
     ⟨(some 30), .faddr 3 (.t 1), none, 10, []⟩,
     ⟨(some 31), .load1 (.t 30), none, 11, []⟩,
     ⟨(some 32), .convI .u8 (.t 31), none, 12, []⟩,
     ⟨(some 33), .faddr 4 (.t 1), none, 13, []⟩,
     ⟨(some 34), .load1 (.t 33), none, 14, []⟩,
     ⟨(some 35), .convI .u8 (.t 34), none, 15, []⟩,
     ⟨(some 36), .mov (.t 4), none, 16, []⟩] ++
    (⟨(some 22), .callF 83 [(.t 21)], none, 2, [((some 24), .load1 (.t 23), none), ((some 28), .load1 (.t 27), none), ((some 31), .load1 (.t 30), none), ((some 34), .load1 (.t 33), none)]⟩ ::
    (⟨(some 25), .callF 83 [(.t 24)], none, 5, [((some 28), .load1 (.t 27), none), ((some 31), .load1 (.t 30), none), ((some 34), .load1 (.t 33), none)]⟩ ::
    ([⟨(some 26), .append 5 1 1 (.t 22) (.t 25), none, 6, [((some 28), .load1 (.t 27), none), ((some 31), .load1 (.t 30), none), ((some 34), .load1 (.t 33), none)]⟩,
     ⟨(some 37), .buildSlice 5 4 [(.int .u8 0), (.int .u8 0), (.int .u8 0), (.int .u8 0)] [(0, 1, (.t 29)), (1, 1, (.t 32)), (2, 1, (.t 35)), (3, 1, (.t 36))], none, 17, []⟩,
     ⟨(some 38), .append 5 1 1 (.t 26) (.t 37), none, 18, []⟩,
     ⟨(some 2), .mov (.t 38), none, 19, []⟩,
     ⟨(some 3), .mov (.c (.int .i64 0)), none, 20, []⟩])))))
 (.ret)))))),
 [.tmp 2, .tmp 3]⟩
def _tithing_tithingref26_writer_two : CFunc := ⟨37,
 (.seq
 (.region 0 ([⟨(some 6), .mov (.t 0), none, 0, []⟩,
     ⟨(some 7), .mov (.t 0), none, 1, []⟩,
     ⟨(some 8), .nilCheck (.t 7), none, 2, []⟩,
     ⟨(some 9), .faddr 1 (.t 8), none, 3, []⟩,
     ⟨(some 10), .load1 (.t 9), none, 4, []⟩,
     ⟨(some 11), .mov (.t 10), none, 5, []⟩,
     ⟨(some 12), .mov (.t 1), (some ((some 11), false)), 6, []⟩,
     ⟨(some 13), .bin .lss (.t 12) (.c (.int .i64 0)), (some ((some 11), false)), 7, []⟩,
     ⟨(some 14), .pick (.t 11) (.c (.bool true)) (.t 13), none, 8, []⟩,
     ⟨(some 15), .mov (.t 14), none, 9, []⟩,
     ⟨(some 16), .mov (.t 1), (some ((some 15), false)), 10, []⟩,
     ⟨(some 17), .mov (.t 2), (some ((some 15), false)), 11, []⟩,
     ⟨(some 18), .bin .gtr (.t 16) (.t 17), (some ((some 15), false)), 12, []⟩,
     ⟨(some 19), .pick (.t 15) (.c (.bool true)) (.t 18), none, 13, []⟩,
     ⟨(some 20), .nilCheck (.t 6), none, 14, []⟩,
     ⟨(some 21), .faddr 1 (.t 20), none, 15, []⟩,
     ⟨none, .store 1 (.t 21) (.t 19), none, 16, []⟩]))
 (.region 16 ([⟨(some 22), .mov (.t 0), none, 0, []⟩,
    ⟨(some 23), .mov (.t 0), none, 1, []⟩,
    ⟨(some 24), .nilCheck (.t 23), none, 2, []⟩,
    ⟨(some 25), .faddr 0 (.t 24), none, 3, []⟩,
    ⟨(some 26), .load1 (.t 25), none, 4, []⟩,
    ⟨(some 27), .mov (.t 1), none, 5, []⟩,
    ⟨(some 28), .bin .quo (.t 27) (.c (.int .i64 256)), none, 6, []⟩,
    ⟨(some 29), .convI .u8 (.t 28), none, 7, []⟩,
    ⟨(some 30), .mov (.t 1), none, 8, []⟩,
    ⟨(some 31), .bin .rem (.t 30) (.c (.int .i64 256)), none, 9, []⟩,
    ⟨(some 32), .convI .u8 (.t 31), none, 10, []⟩,
    ⟨(some 33), .buildSlice 5 2 [(.int .u8 0), (.int .u8 0)] [(0, 1, (.t 29)), (1, 1, (.t 32))], none, 11, []⟩,
    ⟨(some 34), .append 5 1 1 (.t 26) (.t 33), none, 12, []⟩,
    ⟨(some 35), .nilCheck (.t 22), none, 13, []⟩,
    ⟨(some 36), .faddr 0 (.t 35), none, 14, []⟩,
    ⟨none, .store 1 (.t 36) (.t 34), none, 15, []⟩]))),
 []⟩
def _tithing_client_reader_number : CFunc := ⟨6,
 (.seq
 (.region 0 ([⟨(some 2), .mov (.c (.int .i64 0)), none, 0, []⟩]))
 (.seq
 (.many 0 ([⟨(some 3), .mov (.t 0), none, 0, []⟩] ++
    (⟨(some 4), .callF 55 [(.t 3), (.c (.int .i64 4))], none, 1, []⟩ ::
    ([⟨(some 5), .bin .sub (.t 4) (.c (.int .i64 2147483648)), none, 2, []⟩,
     ⟨(some 2), .mov (.t 5), none, 3, []⟩]))))
 (.ret))),
 [.tmp 2]⟩
def _tithing_client_reader_most : CFunc := ⟨14,
 (.seq
 (.region 0 ([⟨(some 4), .mov (.c (.int .i64 0)), none, 0, []⟩]))
 (.seq
 (.many 0 ([⟨(some 6), .mov (.t 0), none, 0, []⟩] ++
    (⟨(some 7), .callF 55 [(.t 6), (.c (.int .i64 1))], none, 1, []⟩ ::
    ([⟨(some 5), .mov (.t 7), none, 2, []⟩]))))
 (.seq
 (.seq
  (.region 0 ([⟨(some 8), .mov (.t 5), none, 0, []⟩,
      ⟨(some 9), .mov (.t 1), none, 1, []⟩,
      ⟨(some 10), .bin .gtr (.t 8) (.t 9), none, 2, []⟩]))
  (.cond (.t 10)
   (.many 0 ([⟨(some 11), .mov (.t 0), none, 0, []⟩] ++
      (⟨(some 12), .callF 84 [(.t 11)], none, 1, []⟩ ::
      ([]))))
   (.skip)))
 (.seq
 (.region 0 ([⟨(some 13), .mov (.t 5), none, 0, []⟩,
     ⟨(some 4), .mov (.t 13), none, 1, []⟩]))
 (.ret))))),
 [.tmp 4]⟩
def octet_Put_l0 : CCode :=
 (.seq
 (.seq
  (.region 0 ([⟨(some 24), .mov (.t 7), none, 0, []⟩,
      ⟨(some 25), .bin .geq (.t 24) (.c (.int .i64 0)), none, 1, []⟩]))
  (.cond (.t 25)
   (.skip)
   (.exit 0)))
 (.seq
 (.block 1
   (.region 9 ([⟨(some 28), .mov (.t 6), none, 0, []⟩,
       ⟨(some 29), .mov (.t 1), none, 1, []⟩,
       ⟨(some 30), .mov (.t 7), none, 2, []⟩,
       ⟨(some 31), .bin .mul (.c (.int .i64 8)) (.t 30), none, 3, []⟩,
       ⟨(some 32), .bin .shr (.t 29) (.t 31), none, 4, []⟩,
       ⟨(some 33), .convI .u8 (.t 32), none, 5, []⟩,
       ⟨(some 34), .buildSlice 5 1 [(.int .u8 0)] [(0, 1, (.t 33))], none, 6, []⟩,
       ⟨(some 35), .append 5 1 1 (.t 28) (.t 34), none, 7, []⟩,
       ⟨(some 6), .mov (.t 35), none, 8, []⟩])))
 (.region 0 ([⟨(some 26), .mov (.t 7), none, 0, []⟩,
    ⟨(some 27), .bin .sub (.t 26) (.c (.int .i64 1)), none, 1, []⟩,
    ⟨(some 7), .mov (.t 27), none, 2, []⟩]))))
def octet_Put : CFunc := ⟨37,
 (.seq
 (.region 0 ([⟨(some 4), .mov (.c (.slice none 0 0)), none, 0, []⟩,
     ⟨(some 5), .mov (.c (.int .i64 0)), none, 1, []⟩]))
 (.seq
 (.seq
  (.many 0 ([⟨(some 8), .mov (.t 0), none, 0, []⟩] ++
     (⟨(some 9), .callF 88 [(.t 8)], none, 1, []⟩ ::
     ([⟨(some 10), .un .not (.t 9), none, 2, []⟩,
      ⟨(some 11), .mov (.t 10), none, 3, []⟩,
      ⟨(some 12), .mov (.t 1), (some ((some 11), false)), 4, []⟩,
      ⟨(some 13), .bin .lss (.t 12) (.c (.int .i64 0)), (some ((some 11), false)), 5, []⟩,
      ⟨(some 14), .pick (.t 11) (.c (.bool true)) (.t 13), none, 6, []⟩,
      ⟨(some 15), .mov (.t 14), none, 7, []⟩,
      ⟨(some 16), .mov (.t 1), (some ((some 15), false)), 8, []⟩,
      ⟨(some 17), .mov (.t 0), (some ((some 15), false)), 9, []⟩,
      ⟨(some 18), .bin .mul (.c (.int .i64 8)) (.t 17), (some ((some 15), false)), 10, []⟩,
      ⟨(some 19), .bin .shl (.c (.int .i64 1)) (.t 18), (some ((some 15), false)), 11, []⟩,
      ⟨(some 20), .bin .geq (.t 16) (.t 19), (some ((some 15), false)), 12, []⟩,
      ⟨(some 21), .pick (.t 15) (.c (.bool true)) (.t 20), none, 13, []⟩]))))
  (.cond (.t 21)
   (.seq
    (.region 0 ([⟨(some 4), .mov (.c (.slice none 0 0)), none, 0, []⟩,
        ⟨(some 5), .mov (.c (.int .i64 2)), none, 1, []⟩]))
    (.ret))
   (.skip)))
 (.seq
 (.region 0 ([⟨(some 6), .mov (.c (.slice none 0 0)), none, 0, []⟩]))
 (.seq
 (.seq
  (.region 0 ([⟨(some 22), .mov (.t 0), none, 0, []⟩,
      ⟨(some 23), .bin .sub (.t 22) (.c (.int .i64 1)), none, 1, []⟩,
      ⟨(some 7), .mov (.t 23), none, 2, []⟩]))
  (.block 0
   (.loop octet_Put_l0)))
 (.seq
 (.region 0 ([⟨(some 36), .mov (.t 6), none, 0, []⟩,
     ⟨(some 4), .mov (.t 36), none, 1, []⟩,
     ⟨(some 5), .mov (.c (.int .i64 0)), none, 2, []⟩]))
 (.ret)))))),
 [.tmp 4, .tmp 5]⟩
def _tithing_client_reader_fixed : CFunc := ⟨18,
 (.seq
 (.region 0 ([⟨(some 4), .mov (.c (.int .i64 0)), none, 0, []⟩]))
 (.seq
 (.many 0 ([⟨(some 9), .mov (.t 0), none, 0, []⟩,
     ⟨(some 10), .mov (.t 1), none, 1, []⟩] ++
    (⟨(some 11), .callF 85 [(.t 9), (.t 10)], none, 2, []⟩ ::
    ([⟨(some 12), .mov (.t 1), none, 3, []⟩] ++
    (⟨(some 13), .callF 89 [(.t 11), (.c (.int .i64 0)), (.t 12)], none, 4, []⟩ ::
    ([⟨(some 8), .mov (.t 13), none, 5, []⟩,
     ⟨(some 14), .extract (.t 8) 0, none, 6, []⟩,
     ⟨(some 15), .extract (.t 8) 1, none, 7, []⟩,
     ⟨(some 16), .extract (.t 8) 2, none, 8, []⟩,
     ⟨(some 5), .mov (.t 14), none, 9, []⟩,
     ⟨(some 6), .mov (.t 15), none, 10, []⟩,
     ⟨(some 7), .mov (.t 16), none, 11, []⟩]))))))
 (.seq
 (.region 0 ([⟨(some 17), .mov (.t 5), none, 0, []⟩,
     ⟨(some 4), .mov (.t 17), none, 1, []⟩]))
 (.ret)))),
 [.tmp 4]⟩
def rights_Valid : CFunc := ⟨26,
 (.seq
 (.region 2 ([⟨(some 1), .box 25 (.t 0), none, 0, []⟩,
     ⟨(some 2), .mov (.c (.bool false)), none, 1, []⟩]))
 (.seq
 (.many 0 ([⟨(some 3), .faddr 0 (.t 1), none, 0, []⟩,
     ⟨(some 4), .load1 (.t 3), none, 1, []⟩,
     ⟨(some 5), .bin .geq (.t 4) (.c (.int .i64 0)), none, 2, []⟩,
     ⟨(some 6), .mov (.t 5), none, 3, []⟩,
     ⟨(some 7), .faddr 1 (.t 1), (some ((some 6), true)), 4, []⟩,
     ⟨(some 8), .load1 (.t 7), (some ((some 6), true)), 5, []⟩,
     ⟨(some 9), .bin .geq (.t 8) (.c (.int .i64 0)), (some ((some 6), true)), 6, []⟩,
     ⟨(some 10), .pick (.t 6) (.t 9) (.c (.bool false)), none, 7, []⟩,
     ⟨(some 11), .mov (.t 10), none, 8, []⟩,
     ⟨(some 12), .faddr 2 (.t 1), (some ((some 11), true)), 9, []⟩,
     ⟨(some 13), .load1 (.t 12), (some ((some 11), true)), 10, []⟩] ++
    (⟨(some 14), .callF 115 [(.t 13), (.c (.int .i64 0)), (.c (.int .i64 7))], (some ((some 11), true)), 11, []⟩ ::
    ([⟨(some 15), .pick (.t 11) (.t 14) (.c (.bool false)), none, 12, []⟩,
     ⟨(some 16), .mov (.t 15), none, 13, []⟩,
     ⟨(some 17), .faddr 3 (.t 1), (some ((some 16), true)), 14, []⟩,
     ⟨(some 18), .load1 (.t 17), (some ((some 16), true)), 15, []⟩] ++
    (⟨(some 19), .callF 115 [(.t 18), (.c (.int .i64 0)), (.c (.int .i64 7))], (some ((some 16), true)), 16, []⟩ ::
    ([⟨(some 20), .pick (.t 16) (.t 19) (.c (.bool false)), none, 17, []⟩,
     ⟨(some 21), .mov (.t 20), none, 18, []⟩,
     ⟨(some 22), .faddr 4 (.t 1), (some ((some 21), true)), 19, []⟩,
     ⟨(some 23), .load1 (.t 22), (some ((some 21), true)), 20, []⟩] ++
    (⟨(some 24), .callF 115 [(.t 23), (.c (.int .i64 0)), (.c (.int .i64 7))], (some ((some 21), true)), 21, []⟩ ::
    ([⟨(some 25), .pick (.t 21) (.t 24) (.c (.bool false)), none, 22, []⟩,
     ⟨(some 2), .mov (.t 25), none, 23, []⟩]))))))))
 (.ret))),
 [.tmp 2]⟩
def slices_IndexFunc_int_int_l0 : CCode :=
 (.seq
 (.region 0 ([⟨(some 9), .bin .lss (.t 8) (.t 7), none, 0, []⟩]))
 (.seq
 (.cond (.t 9)
   (.skip)
   (.exit 0))
 (.seq
 (.block 1
   (.seq
    (.region 0 ([⟨(some 10), .mov (.t 8), none, 0, []⟩,
        ⟨(some 5), .mov (.t 10), none, 1, []⟩]))
    (.seq
    (.many 0 ([⟨(some 11), .mov (.t 1), none, 0, []⟩,
        ⟨(some 12), .mov (.t 0), none, 1, []⟩,
        ⟨(some 13), .mov (.t 5), none, 2, []⟩,
        ⟨(some 14), .iaddrV 1 (.t 12) (.t 13), none, 3, []⟩,
        ⟨(some 15), .load1 (.t 14), none, 4, []⟩] ++
       (⟨(some 16), .callV (.t 11) [(.t 15)], none, 5, []⟩ ::
       ([]))))
    (.cond (.t 16)
     (.seq
      (.region 0 ([⟨(some 17), .mov (.t 5), none, 0, []⟩,
          ⟨(some 4), .mov (.t 17), none, 1, []⟩]))
      (.ret))
     (.skip)))))
 (.region 0 ([⟨(some 18), .bin .add (.t 8) (.c (.int .i64 1)), none, 0, []⟩,
    ⟨(some 8), .mov (.t 18), none, 1, []⟩])))))
def slices_IndexFunc_int_int : CFunc := ⟨19,
 (.seq
 (.region 0 ([⟨(some 4), .mov (.c (.int .i64 0)), none, 0, []⟩]))
 (.seq
 (.seq
  (.region 0 ([⟨(some 6), .mov (.t 0), none, 0, []⟩,
      ⟨(some 7), .lenV (.t 6), none, 1, []⟩,
      ⟨(some 8), .mov (.c (.int .i64 0)), none, 2, []⟩]))
  (.block 0
   (.loop slices_IndexFunc_int_int_l0)))
 (.seq
 (.region 0 ([⟨(some 4), .mov (.c (.int .i64 (-1))), none, 0, []⟩]))
 (.ret)))),
 [.tmp 4]⟩
def octet_PutText : CFunc := ⟨13,
 (.seq
 (.region 0 ([⟨(some 2), .mov (.c (.slice none 0 0)), none, 0, []⟩,
     ⟨(some 3), .mov (.c (.int .i64 0)), none, 1, []⟩]))
 (.seq
 (.seq
  (.region 0 ([⟨(some 4), .mov (.t 0), none, 0, []⟩,
      ⟨(some 5), .lenS (.t 4), none, 1, []⟩,
      ⟨(some 6), .bin .gtr (.t 5) (.c (.int .i64 31)), none, 2, []⟩]))
  (.cond (.t 6)
   (.seq
    (.region 0 ([⟨(some 2), .mov (.c (.slice none 0 0)), none, 0, []⟩,
        ⟨(some 3), .mov (.c (.int .i64 2)), none, 1, []⟩]))
    (.ret))
   (.skip)))
 (.seq
 (.region 8 ([⟨(some 7), .mov (.t 0), none, 0, []⟩,
     ⟨(some 8), .lenS (.t 7), none, 1, []⟩,
     ⟨(some 9), .convI .u8 (.t 8), none, 2, []⟩,
     ⟨(some 10), .buildSlice 5 1 [(.int .u8 0)] [(0, 1, (.t 9))], none, 3, []⟩,
     ⟨(some 11), .mov (.t 0), none, 4, []⟩,
     ⟨(some 12), .append 5 1 1 (.t 10) (.t 11), none, 5, []⟩,
     ⟨(some 2), .mov (.t 12), none, 6, []⟩,
     ⟨(some 3), .mov (.c (.int .i64 0)), none, 7, []⟩]))
 (.ret)))),
 [.tmp 2, .tmp 3]⟩
def slices_Grow_byte_byte : CFunc := ⟨27,
 (.seq
 (.region 0 ([⟨(some 4), .mov (.c (.slice none 0 0)), none, 0, []⟩]))
 (.seq
 (.seq
  (.region 0 ([⟨(some 5), .mov (.t 1), none, 0, []⟩,
      ⟨(some 6), .bin .lss (.t 5) (.c (.int .i64 0)), none, 1, []⟩]))
  (.cond (.t 6)
   (.no)
   (.skip)))
 (.seq
 (.seq
  (.region 0 ([⟨(some 8), .mov (.t 1), none, 0, []⟩,
      ⟨(some 9), .mov (.t 0), none, 1, []⟩,
      ⟨(some 10), .capV (.t 9), none, 2, []⟩,
      ⟨(some 11), .mov (.t 0), none, 3, []⟩,
      ⟨(some 12), .lenV (.t 11), none, 4, []⟩,
      ⟨(some 13), .bin .sub (.t 10) (.t 12), none, 5, []⟩,
      ⟨(some 14), .bin .sub (.t 8) (.t 13), none, 6, []⟩,
      ⟨(some 1), .mov (.t 14), none, 7, []⟩]))
  (.seq
  (.region 0 ([⟨(some 15), .mov (.t 1), none, 0, []⟩,
      ⟨(some 16), .bin .gtr (.t 15) (.c (.int .i64 0)), none, 1, []⟩]))
  (.cond (.t 16)
   (.region 0 ([⟨(some 17), .mov (.t 0), none, 0, []⟩,
       ⟨(some 18), .mov (.t 0), none, 1, []⟩,
       ⟨(some 19), .capV (.t 18), none, 2, []⟩,
       ⟨(some 20), .sliceV 1 (.t 17) none (some (.t 19)) none, none, 3, []⟩,
       ⟨(some 21), .mov (.t 1), none, 4, []⟩,
       ⟨(some 22), .appendZ 5 1 1 [(.int .u8 0)] (.t 20) (.t 21), none, 5, []⟩,
       ⟨(some 23), .mov (.t 0), none, 6, []⟩,
       ⟨(some 24), .lenV (.t 23), none, 7, []⟩,
       ⟨(some 25), .sliceV 1 (.t 22) none (some (.t 24)) none, none, 8, []⟩,
       ⟨(some 0), .mov (.t 25), none, 9, []⟩]))
   (.skip))))
 (.seq
 (.region 0 ([⟨(some 26), .mov (.t 0), none, 0, []⟩,
     ⟨(some 4), .mov (.t 26), none, 1, []⟩]))
 (.ret))))),
 [.tmp 4]⟩
def tithingref21_Valid : CFunc := ⟨26,
 (.seq
 (.region 2 ([⟨(some 1), .box 25 (.t 0), none, 0, []⟩,
     ⟨(some 2), .mov (.c (.bool false)), none, 1, []⟩]))
 (.seq
 (.many 0 ([⟨(some 3), .faddr 0 (.t 1), none, 0, []⟩,
     ⟨(some 4), .load1 (.t 3), none, 1, []⟩,
     ⟨(some 5), .bin .geq (.t 4) (.c (.int .i64 0)), none, 2, []⟩,
     ⟨(some 6), .mov (.t 5), none, 3, []⟩,
     ⟨(some 7), .faddr 1 (.t 1), (some ((some 6), true)), 4, []⟩,
     ⟨(some 8), .load1 (.t 7), (some ((some 6), true)), 5, []⟩,
     ⟨(some 9), .bin .geq (.t 8) (.c (.int .i64 0)), (some ((some 6), true)), 6, []⟩,
     ⟨(some 10), .pick (.t 6) (.t 9) (.c (.bool false)), none, 7, []⟩,
     ⟨(some 11), .mov (.t 10), none, 8, []⟩,
     ⟨(some 12), .faddr 2 (.t 1), (some ((some 11), true)), 9, []⟩,
     ⟨(some 13), .load1 (.t 12), (some ((some 11), true)), 10, []⟩] ++
    (⟨(some 14), .callF 116 [(.t 13)], (some ((some 11), true)), 11, []⟩ ::
    ([⟨(some 15), .pick (.t 11) (.t 14) (.c (.bool false)), none, 12, []⟩,
     ⟨(some 16), .mov (.t 15), none, 13, []⟩,
     ⟨(some 17), .faddr 3 (.t 1), (some ((some 16), true)), 14, []⟩,
     ⟨(some 18), .load1 (.t 17), (some ((some 16), true)), 15, []⟩] ++
    (⟨(some 19), .callF 116 [(.t 18)], (some ((some 16), true)), 16, []⟩ ::
    ([⟨(some 20), .pick (.t 16) (.t 19) (.c (.bool false)), none, 17, []⟩,
     ⟨(some 21), .mov (.t 20), none, 18, []⟩,
     ⟨(some 22), .faddr 4 (.t 1), (some ((some 21), true)), 19, []⟩,
     ⟨(some 23), .load1 (.t 22), (some ((some 21), true)), 20, []⟩] ++
    (⟨(some 24), .callF 116 [(.t 23)], (some ((some 21), true)), 21, []⟩ ::
    ([⟨(some 25), .pick (.t 21) (.t 24) (.c (.bool false)), none, 22, []⟩,
     ⟨(some 2), .mov (.t 25), none, 23, []⟩]))))))))
 (.ret))),
 [.tmp 2]⟩
def tithingref25_four : CFunc := ⟨15,
 (.seq
 (.region 0 ([⟨(some 2), .mov (.c (.slice none 0 0)), none, 0, []⟩]))
 (.seq
 (.region 13 ([⟨(some 3), .mov (.t 0), none, 0, []⟩,
     ⟨(some 4), .bin .shr (.t 3) (.c (.int .u64 24)), none, 1, []⟩,
     ⟨(some 5), .convI .u8 (.t 4), none, 2, []⟩,
     ⟨(some 6), .mov (.t 0), none, 3, []⟩,
     ⟨(some 7), .bin .shr (.t 6) (.c (.int .u64 16)), none, 4, []⟩,
     ⟨(some 8), .convI .u8 (.t 7), none, 5, []⟩,
     ⟨(some 9), .mov (.t 0), none, 6, []⟩,
     ⟨(some 10), .bin .shr (.t 9) (.c (.int .u64 8)), none, 7, []⟩,
     ⟨(some 11), .convI .u8 (.t 10), none, 8, []⟩,
     ⟨(some 12), .mov (.t 0), none, 9, []⟩,
     ⟨(some 13), .convI .u8 (.t 12), none, 10, []⟩,
     ⟨(some 14), .buildSlice 5 4 [(.int .u8 0), (.int .u8 0), (.int .u8 0), (.int .u8 0)] [(0, 1, (.t 5)), (1, 1, (.t 8)), (2, 1, (.t 11)), (3, 1, (.t 13))], none, 11, []⟩,
     ⟨(some 2), .mov (.t 14), none, 12, []⟩]))
 (.ret))),
 [.tmp 2]⟩
def _tithing_client_reader_fail : CFunc := ⟨10,
 (.seq
 (.region 0 ([⟨(some 2), .mov (.t 0), none, 0, []⟩,
     ⟨(some 3), .nilCheck (.t 2), none, 1, []⟩,
     ⟨(some 4), .faddr 2 (.t 3), none, 2, []⟩,
     ⟨(some 5), .load1 (.t 4), none, 3, []⟩,
     ⟨(some 6), .bin .eql (.t 5) (.c (.int .i64 0)), none, 4, []⟩]))
 (.cond (.t 6)
  (.region 0 ([⟨(some 7), .mov (.t 0), none, 0, []⟩,
      ⟨(some 8), .nilCheck (.t 7), none, 1, []⟩,
      ⟨(some 9), .faddr 2 (.t 8), none, 2, []⟩,
      ⟨none, .store 1 (.t 9) (.c (.int .i64 3)), none, 3, []⟩]))
  (.skip))),
 []⟩
def _tithing_client_reader_take : CFunc := ⟨57,
 (.seq
 (.region 0 ([⟨(some 4), .mov (.c (.slice none 0 0)), none, 0, []⟩]))
 (.seq
 (.seq
  (.region 0 ([⟨(some 5), .mov (.t 0), none, 0, []⟩,
      ⟨(some 6), .nilCheck (.t 5), none, 1, []⟩,
      ⟨(some 7), .faddr 2 (.t 6), none, 2, []⟩,
      ⟨(some 8), .load1 (.t 7), none, 3, []⟩,
      ⟨(some 9), .bin .eql (.t 8) (.c (.int .i64 0)), none, 4, []⟩,
      ⟨(some 10), .mov (.t 9), none, 5, []⟩,
      ⟨(some 11), .mov (.t 1), (some ((some 10), true)), 6, []⟩,
      ⟨(some 12), .mov (.t 0), (some ((some 10), true)), 7, []⟩,
      ⟨(some 13), .nilCheck (.t 12), (some ((some 10), true)), 8, []⟩,
      ⟨(some 14), .faddr 0 (.t 13), (some ((some 10), true)), 9, []⟩,
      ⟨(some 15), .load1 (.t 14), (some ((some 10), true)), 10, []⟩,
      ⟨(some 16), .lenV (.t 15), (some ((some 10), true)), 11, []⟩,
      ⟨(some 17), .mov (.t 0), (some ((some 10), true)), 12, []⟩,
      ⟨(some 18), .nilCheck (.t 17), (some ((some 10), true)), 13, []⟩,
      ⟨(some 19), .faddr 1 (.t 18), (some ((some 10), true)), 14, []⟩,
      ⟨(some 20), .load1 (.t 19), (some ((some 10), true)), 15, []⟩,
      ⟨(some 21), .bin .sub (.t 16) (.t 20), (some ((some 10), true)), 16, []⟩,
      ⟨(some 22), .bin .gtr (.t 11) (.t 21), (some ((some 10), true)), 17, []⟩,
      ⟨(some 23), .pick (.t 10) (.t 22) (.c (.bool false)), none, 18, []⟩]))
  (.cond (.t 23)
   (.region 0 ([⟨(some 24), .mov (.t 0), none, 0, []⟩,
       ⟨(some 25), .nilCheck (.t 24), none, 1, []⟩,
       ⟨(some 26), .faddr 2 (.t 25), none, 2, []⟩,
       ⟨none, .store 1 (.t 26) (.c (.int .i64 6)), none, 3, []⟩]))
   (.skip)))
 (.seq
 (.seq
  (.region 0 ([⟨(some 27), .mov (.t 0), none, 0, []⟩,
      ⟨(some 28), .nilCheck (.t 27), none, 1, []⟩,
      ⟨(some 29), .faddr 2 (.t 28), none, 2, []⟩,
      ⟨(some 30), .load1 (.t 29), none, 3, []⟩,
      ⟨(some 31), .bin .neq (.t 30) (.c (.int .i64 0)), none, 4, []⟩]))
  (.cond (.t 31)
   (.seq
    (.region 3 ([⟨(some 32), .mov (.t 1), none, 0, []⟩,
        ⟨(some 33), .mkSlice 5 1 [(.int .u8 0)] (.t 32) (.t 32), none, 1, []⟩,
        ⟨(some 4), .mov (.t 33), none, 2, []⟩]))
    (.ret))
   (.skip)))
 (.seq
 (.region 0 ([⟨(some 34), .mov (.t 0), none, 0, []⟩,
     ⟨(some 35), .nilCheck (.t 34), none, 1, []⟩,
     ⟨(some 36), .faddr 1 (.t 35), none, 2, []⟩,
     ⟨(some 37), .load1 (.t 36), none, 3, []⟩,
     ⟨(some 38), .mov (.t 1), none, 4, []⟩,
     ⟨(some 39), .bin .add (.t 37) (.t 38), none, 5, []⟩,
     ⟨(some 40), .nilCheck (.t 34), none, 6, []⟩,
     ⟨(some 41), .faddr 1 (.t 40), none, 7, []⟩,
     ⟨none, .store 1 (.t 41) (.t 39), none, 8, []⟩]))
 (.seq
 (.region 0 ([⟨(some 42), .mov (.t 0), none, 0, []⟩,
     ⟨(some 43), .nilCheck (.t 42), none, 1, []⟩,
     ⟨(some 44), .faddr 0 (.t 43), none, 2, []⟩,
     ⟨(some 45), .load1 (.t 44), none, 3, []⟩,
     ⟨(some 46), .mov (.t 0), none, 4, []⟩,
     ⟨(some 47), .nilCheck (.t 46), none, 5, []⟩,
     ⟨(some 48), .faddr 1 (.t 47), none, 6, []⟩,
     ⟨(some 49), .load1 (.t 48), none, 7, []⟩,
     ⟨(some 50), .mov (.t 1), none, 8, []⟩,
     ⟨(some 51), .bin .sub (.t 49) (.t 50), none, 9, []⟩,
     ⟨(some 52), .mov (.t 0), none, 10, []⟩,
     ⟨(some 53), .nilCheck (.t 52), none, 11, []⟩,
     ⟨(some 54), .faddr 1 (.t 53), none, 12, []⟩,
     ⟨(some 55), .load1 (.t 54), none, 13, []⟩,
     ⟨(some 56), .sliceV 1 (.t 45) (some (.t 51)) (some (.t 55)) none, none, 14, []⟩,
     ⟨(some 4), .mov (.t 56), none, 15, []⟩]))
 (.ret)))))),
 [.tmp 4]⟩
def octet_isWidth : CFunc := ⟨13,
 (.seq
 (.region 0 ([⟨(some 2), .mov (.c (.bool false)), none, 0, []⟩]))
 (.seq
 (.region 0 ([⟨(some 3), .mov (.t 0), none, 0, []⟩,
     ⟨(some 4), .bin .eql (.t 3) (.c (.int .i64 1)), none, 1, []⟩,
     ⟨(some 5), .mov (.t 4), none, 2, []⟩,
     ⟨(some 6), .mov (.t 0), (some ((some 5), false)), 3, []⟩,
     ⟨(some 7), .bin .eql (.t 6) (.c (.int .i64 2)), (some ((some 5), false)), 4, []⟩,
     ⟨(some 8), .pick (.t 5) (.c (.bool true)) (.t 7), none, 5, []⟩,
     ⟨(some 9), .mov (.t 8), none, 6, []⟩,
     ⟨(some 10), .mov (.t 0), (some ((some 9), false)), 7, []⟩,
     ⟨(some 11), .bin .eql (.t 10) (.c (.int .i64 4)), (some ((some 9), false)), 8, []⟩,
     ⟨(some 12), .pick (.t 9) (.c (.bool true)) (.t 11), none, 9, []⟩,
     ⟨(some 2), .mov (.t 12), none, 10, []⟩]))
 (.ret))),
 [.tmp 2]⟩
def octet_Get_l0 : CCode :=
 (.seq
 (.region 0 ([⟨(some 40), .bin .lss (.t 39) (.t 38), none, 0, []⟩]))
 (.seq
 (.cond (.t 40)
   (.skip)
   (.exit 1))
 (.seq
 (.block 2
   (.seq
    (.region 0 ([⟨(some 41), .iaddrV 1 (.t 37) (.t 39), none, 0, []⟩,
        ⟨(some 42), .load1 (.t 41), none, 1, []⟩,
        ⟨(some 10), .mov (.t 42), none, 2, []⟩]))
    (.region 0 ([⟨(some 43), .mov (.t 6), none, 0, []⟩,
       ⟨(some 44), .bin .shl (.t 43) (.c (.int .u64 8)), none, 1, []⟩,
       ⟨(some 45), .mov (.t 10), none, 2, []⟩,
       ⟨(some 46), .convI .i64 (.t 45), none, 3, []⟩,
       ⟨(some 47), .bin .or (.t 44) (.t 46), none, 4, []⟩,
       ⟨(some 6), .mov (.t 47), none, 5, []⟩]))))
 (.region 0 ([⟨(some 48), .bin .add (.t 39) (.c (.int .i64 1)), none, 0, []⟩,
    ⟨(some 39), .mov (.t 48), none, 1, []⟩])))))
def octet_Get : CFunc := ⟨53,
 (.seq
 (.region 0 ([⟨(some 6), .mov (.c (.int .i64 0)), none, 0, []⟩,
     ⟨(some 7), .mov (.c (.int .i64 0)), none, 1, []⟩,
     ⟨(some 8), .mov (.c (.int .i64 0)), none, 2, []⟩]))
 (.seq
 (.block 0
   (.seq
    (.many 0 ([⟨(some 12), .mov (.t 2), none, 0, []⟩] ++
       (⟨(some 13), .callF 88 [(.t 12)], none, 1, []⟩ ::
       ([⟨(some 14), .un .not (.t 13), none, 2, []⟩,
        ⟨(some 15), .mov (.t 14), none, 3, []⟩,
        ⟨(some 16), .mov (.t 1), (some ((some 15), false)), 4, []⟩,
        ⟨(some 17), .bin .lss (.t 16) (.c (.int .i64 0)), (some ((some 15), false)), 5, []⟩,
        ⟨(some 18), .pick (.t 15) (.c (.bool true)) (.t 17), none, 6, []⟩,
        ⟨(some 19), .mov (.t 18), none, 7, []⟩,
        ⟨(some 20), .mov (.t 1), (some ((some 19), false)), 8, []⟩,
        ⟨(some 21), .mov (.t 0), (some ((some 19), false)), 9, []⟩,
        ⟨(some 22), .lenV (.t 21), (some ((some 19), false)), 10, []⟩,
        ⟨(some 23), .bin .gtr (.t 20) (.t 22), (some ((some 19), false)), 11, []⟩,
        ⟨(some 24), .pick (.t 19) (.c (.bool true)) (.t 23), none, 12, []⟩,
        ⟨(some 11), .mov (.t 24), none, 13, []⟩]))))
    (.cond (.t 11)
     (.seq
      (.region 0 ([⟨(some 6), .mov (.c (.int .i64 0)), none, 0, []⟩,
          ⟨(some 7), .mov (.c (.int .i64 0)), none, 1, []⟩,
          ⟨(some 8), .mov (.c (.int .i64 2)), none, 2, []⟩]))
      (.ret))
     (.seq
      (.region 0 ([⟨(some 26), .mov (.t 0), none, 0, []⟩,
          ⟨(some 27), .lenV (.t 26), none, 1, []⟩,
          ⟨(some 28), .mov (.t 1), none, 2, []⟩,
          ⟨(some 29), .bin .sub (.t 27) (.t 28), none, 3, []⟩,
          ⟨(some 30), .mov (.t 2), none, 4, []⟩,
          ⟨(some 31), .bin .lss (.t 29) (.t 30), none, 5, []⟩,
          ⟨(some 25), .mov (.t 31), none, 6, []⟩]))
      (.cond (.t 25)
       (.seq
        (.region 0 ([⟨(some 6), .mov (.c (.int .i64 0)), none, 0, []⟩,
            ⟨(some 7), .mov (.c (.int .i64 0)), none, 1, []⟩,
            ⟨(some 8), .mov (.c (.int .i64 6)), none, 2, []⟩]))
        (.ret))
       (.skip))))))
 (.seq
 (.seq
  (.region 0 ([⟨(some 32), .mov (.t 0), none, 0, []⟩,
      ⟨(some 33), .mov (.t 1), none, 1, []⟩,
      ⟨(some 34), .mov (.t 1), none, 2, []⟩,
      ⟨(some 35), .mov (.t 2), none, 3, []⟩,
      ⟨(some 36), .bin .add (.t 34) (.t 35), none, 4, []⟩,
      ⟨(some 37), .sliceV 1 (.t 32) (some (.t 33)) (some (.t 36)) none, none, 5, []⟩,
      ⟨(some 38), .lenV (.t 37), none, 6, []⟩,
      ⟨(some 39), .mov (.c (.int .i64 0)), none, 7, []⟩]))
  (.block 1
   (.loop octet_Get_l0)))
 (.seq
 (.region 0 ([⟨(some 49), .mov (.t 6), none, 0, []⟩,
     ⟨(some 50), .mov (.t 1), none, 1, []⟩,
     ⟨(some 51), .mov (.t 2), none, 2, []⟩,
     ⟨(some 52), .bin .add (.t 50) (.t 51), none, 3, []⟩,
     ⟨(some 6), .mov (.t 49), none, 4, []⟩,
     ⟨(some 7), .mov (.t 52), none, 5, []⟩,
     ⟨(some 8), .mov (.c (.int .i64 0)), none, 6, []⟩]))
 (.ret))))),
 [.tmp 6, .tmp 7, .tmp 8]⟩
def rights_within : CFunc := ⟨15,
 (.seq
 (.region 0 ([⟨(some 6), .mov (.c (.bool false)), none, 0, []⟩]))
 (.seq
 (.region 0 ([⟨(some 7), .mov (.t 0), none, 0, []⟩,
     ⟨(some 8), .mov (.t 1), none, 1, []⟩,
     ⟨(some 9), .bin .geq (.t 7) (.t 8), none, 2, []⟩,
     ⟨(some 10), .mov (.t 9), none, 3, []⟩,
     ⟨(some 11), .mov (.t 0), (some ((some 10), true)), 4, []⟩,
     ⟨(some 12), .mov (.t 2), (some ((some 10), true)), 5, []⟩,
     ⟨(some 13), .bin .leq (.t 11) (.t 12), (some ((some 10), true)), 6, []⟩,
     ⟨(some 14), .pick (.t 10) (.t 13) (.c (.bool false)), none, 7, []⟩,
     ⟨(some 6), .mov (.t 14), none, 8, []⟩]))
 (.ret))),
 [.tmp 6]⟩
def tithingref21_bits : CFunc := ⟨9,
 (.seq
 (.region 0 ([⟨(some 2), .mov (.c (.bool false)), none, 0, []⟩]))
 (.seq
 (.region 0 ([⟨(some 3), .mov (.t 0), none, 0, []⟩,
     ⟨(some 4), .bin .geq (.t 3) (.c (.int .i64 0)), none, 1, []⟩,
     ⟨(some 5), .mov (.t 4), none, 2, []⟩,
     ⟨(some 6), .mov (.t 0), (some ((some 5), true)), 3, []⟩,
     ⟨(some 7), .bin .leq (.t 6) (.c (.int .i64 7)), (some ((some 5), true)), 4, []⟩,
     ⟨(some 8), .pick (.t 5) (.t 7) (.c (.bool false)), none, 5, []⟩,
     ⟨(some 2), .mov (.t 8), none, 6, []⟩]))
 (.ret))),
 [.tmp 2]⟩
end Code
structure Codes (E : Env) : Prop where
  tithinglaw26_ClientCalls : Has E 3 Code.tithinglaw26_ClientCalls
  tithinglaw26_LongCall : Has E 8 Code.tithinglaw26_LongCall
  client_PutCall : Has E 10 Code.client_PutCall
  tithingref26_PutCall : Has E 11 Code.tithingref26_PutCall
  server_PutRights : Has E 26 Code.server_PutRights
  slices_ContainsFunc_int_int : Has E 27 Code.slices_ContainsFunc_int_int
  client_PutCall_1 : Has E 28 Code.client_PutCall_1
  client_isNumber : Has E 29 Code.client_isNumber
  client_counted : Has E 30 Code.client_counted
  client_number : Has E 31 Code.client_number
  slices_Concat_byte_byte : Has E 32 Code.slices_Concat_byte_byte
  client_modeByte : Has E 33 Code.client_modeByte
  client_long : Has E 34 Code.client_long
  _tithing_tithingref26_writer_text : Has E 35 Code._tithing_tithingref26_writer_text
  _tithing_tithingref26_writer_four : Has E 36 Code._tithing_tithingref26_writer_four
  tithingref26_mode : Has E 37 Code.tithingref26_mode
  tithingref25_PutRights : Has E 38 Code.tithingref25_PutRights
  _tithing_tithingref26_writer_two : Has E 39 Code._tithing_tithingref26_writer_two
  _tithing_client_reader_number : Has E 41 Code._tithing_client_reader_number
  _tithing_client_reader_most : Has E 42 Code._tithing_client_reader_most
  octet_Put : Has E 53 Code.octet_Put
  _tithing_client_reader_fixed : Has E 55 Code._tithing_client_reader_fixed
  rights_Valid : Has E 78 Code.rights_Valid
  slices_IndexFunc_int_int : Has E 79 Code.slices_IndexFunc_int_int
  octet_PutText : Has E 80 Code.octet_PutText
  slices_Grow_byte_byte : Has E 81 Code.slices_Grow_byte_byte
  tithingref21_Valid : Has E 82 Code.tithingref21_Valid
  tithingref25_four : Has E 83 Code.tithingref25_four
  _tithing_client_reader_fail : Has E 84 Code._tithing_client_reader_fail
  _tithing_client_reader_take : Has E 85 Code._tithing_client_reader_take
  octet_isWidth : Has E 88 Code.octet_isWidth
  octet_Get : Has E 89 Code.octet_Get
  rights_within : Has E 115 Code.rights_within
  tithingref21_bits : Has E 116 Code.tithingref21_bits
end Go.Ev
