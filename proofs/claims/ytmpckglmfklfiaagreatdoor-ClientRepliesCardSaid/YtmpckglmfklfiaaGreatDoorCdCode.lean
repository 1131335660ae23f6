/-
  The code of functions as the machine has it, by name; their numbers.
-/
import Derived.Test.YtmpckglmfklfiaaGreatDoorEvPart3
set_option linter.unusedVariables false
namespace Go.Ev
namespace Code
def tithinglaw26_ClientReplies : CFunc := ⟨33,
 (.seq
 (.region 2 ([⟨(some 1), .box 40 (.t 0), none, 0, []⟩,
     ⟨(some 2), .mov (.c (.bool false)), none, 1, []⟩]))
 (.seq
 (.seq
  (.many 0 ([⟨(some 7), .loadN 5 (.t 1), none, 0, []⟩] ++
     (⟨(some 8), .callF 15 [(.t 7)], none, 1, []⟩ ::
     ([]))))
  (.cond (.t 8)
   (.seq
    (.many 0 (⟨(some 9), .callF 9 [], none, 0, []⟩ ::
       ([⟨(some 2), .mov (.t 9), none, 1, []⟩])))
    (.ret))
   (.skip)))
 (.seq
 (.many 0 ([⟨(some 11), .loadN 5 (.t 1), none, 0, []⟩] ++
    (⟨(some 12), .callF 16 [(.t 11)], none, 1, []⟩ ::
    ([⟨(some 10), .mov (.t 12), none, 2, []⟩,
     ⟨(some 13), .extract (.t 10) 0, none, 3, []⟩,
     ⟨(some 14), .extract (.t 10) 1, none, 4, []⟩,
     ⟨(some 3), .mov (.t 13), none, 5, []⟩,
     ⟨(some 4), .mov (.t 14), none, 6, []⟩]))))
 (.seq
 (.many 0 ([⟨(some 16), .loadN 5 (.t 1), none, 0, []⟩] ++
    (⟨(some 17), .callF 17 [(.t 16)], none, 1, []⟩ ::
    ([⟨(some 15), .mov (.t 17), none, 2, []⟩,
     ⟨(some 18), .extract (.t 15) 0, none, 3, []⟩,
     ⟨(some 19), .extract (.t 15) 1, none, 4, []⟩,
     ⟨(some 5), .mov (.t 18), none, 5, []⟩,
     ⟨(some 6), .mov (.t 19), none, 6, []⟩]))))
 (.seq
 (.many 0 ([⟨(some 20), .mov (.t 3), none, 0, []⟩,
     ⟨(some 21), .convBS (.t 20), none, 1, []⟩,
     ⟨(some 22), .mov (.t 5), none, 2, []⟩,
     ⟨(some 23), .convBS (.t 22), none, 3, []⟩,
     ⟨(some 24), .bin .eql (.t 21) (.t 23), none, 4, []⟩,
     ⟨(some 25), .mov (.t 24), none, 5, []⟩,
     ⟨(some 26), .mov (.t 4), (some ((some 25), true)), 6, []⟩,
     ⟨(some 27), .mov (.t 6), (some ((some 25), true)), 7, []⟩,
     ⟨(some 28), .bin .eql (.t 26) (.t 27), (some ((some 25), true)), 8, []⟩,
     ⟨(some 29), .pick (.t 25) (.t 28) (.c (.bool false)), none, 9, []⟩,
     ⟨(some 30), .mov (.t 29), none, 10, []⟩] ++
    (⟨(some 31), .callF 9 [], (some ((some 30), true)), 11, []⟩ ::
    ([⟨(some 32), .pick (.t 30) (.t 31) (.c (.bool false)), none, 12, []⟩,
     ⟨(some 2), .mov (.t 32), none, 13, []⟩]))))
 (.ret)))))),
 [.tmp 2]⟩
def tithinglaw26_longReply_l0 : CCode :=
 (.seq
 (.seq
  (.region 0 ([⟨(some 4), .mov (.t 3), none, 0, []⟩,
      ⟨(some 5), .faddr 4 (.t 1), none, 1, []⟩,
      ⟨(some 6), .load1 (.t 5), none, 2, []⟩,
      ⟨(some 7), .lenV (.t 6), none, 3, []⟩,
      ⟨(some 8), .bin .lss (.t 4) (.t 7), none, 4, []⟩]))
  (.cond (.t 8)
   (.skip)
   (.exit 0)))
 (.seq
 (.block 1
   (.seq
    (.region 0 ([⟨(some 11), .faddr 4 (.t 1), none, 0, []⟩,
        ⟨(some 12), .load1 (.t 11), none, 1, []⟩,
        ⟨(some 13), .mov (.t 3), none, 2, []⟩,
        ⟨(some 14), .iaddrV 4 (.t 12) (.t 13), none, 3, []⟩,
        ⟨(some 15), .faddr 2 (.t 14), none, 4, []⟩,
        ⟨(some 16), .load1 (.t 15), none, 5, []⟩,
        ⟨(some 17), .lenS (.t 16), none, 6, []⟩,
        ⟨(some 18), .bin .gtr (.t 17) (.c (.int .i64 60)), none, 7, []⟩]))
    (.cond (.t 18)
     (.seq
      (.region 0 ([⟨(some 2), .mov (.c (.bool true)), none, 0, []⟩]))
      (.ret))
     (.skip))))
 (.region 0 ([⟨(some 9), .mov (.t 3), none, 0, []⟩,
    ⟨(some 10), .bin .add (.t 9) (.c (.int .i64 1)), none, 1, []⟩,
    ⟨(some 3), .mov (.t 10), none, 2, []⟩]))))
def tithinglaw26_longReply : CFunc := ⟨35,
 (.seq
 (.region 2 ([⟨(some 1), .box 40 (.t 0), none, 0, []⟩,
     ⟨(some 2), .mov (.c (.bool false)), none, 1, []⟩]))
 (.seq
 (.seq
  (.region 0 ([⟨(some 3), .mov (.c (.int .i64 0)), none, 0, []⟩]))
  (.block 0
   (.loop tithinglaw26_longReply_l0)))
 (.seq
 (.region 0 ([⟨(some 19), .faddr 2 (.t 1), none, 0, []⟩,
     ⟨(some 20), .load1 (.t 19), none, 1, []⟩,
     ⟨(some 21), .lenS (.t 20), none, 2, []⟩,
     ⟨(some 22), .bin .gtr (.t 21) (.c (.int .i64 2000)), none, 3, []⟩,
     ⟨(some 23), .mov (.t 22), none, 4, []⟩,
     ⟨(some 24), .faddr 3 (.t 1), (some ((some 23), false)), 5, []⟩,
     ⟨(some 25), .load1 (.t 24), (some ((some 23), false)), 6, []⟩,
     ⟨(some 26), .lenV (.t 25), (some ((some 23), false)), 7, []⟩,
     ⟨(some 27), .bin .gtr (.t 26) (.c (.int .i64 2000)), (some ((some 23), false)), 8, []⟩,
     ⟨(some 28), .pick (.t 23) (.c (.bool true)) (.t 27), none, 9, []⟩,
     ⟨(some 29), .mov (.t 28), none, 10, []⟩,
     ⟨(some 30), .faddr 4 (.t 1), (some ((some 29), false)), 11, []⟩,
     ⟨(some 31), .load1 (.t 30), (some ((some 29), false)), 12, []⟩,
     ⟨(some 32), .lenV (.t 31), (some ((some 29), false)), 13, []⟩,
     ⟨(some 33), .bin .gtr (.t 32) (.c (.int .i64 60)), (some ((some 29), false)), 14, []⟩,
     ⟨(some 34), .pick (.t 29) (.c (.bool true)) (.t 33), none, 15, []⟩,
     ⟨(some 2), .mov (.t 34), none, 16, []⟩]))
 (.ret)))),
 [.tmp 2]⟩
def client_PutReply_l0 : CCode :=
 (.seq
 (.region 0 ([⟨(some 74), .bin .lss (.t 73) (.t 72), none, 0, []⟩]))
 (.seq
 (.cond (.t 74)
   (.skip)
   (.exit 0))
 (.seq
 (.block 1
   (.seq
    (.region 4 ([⟨(some 75), .iaddrV 4 (.t 71) (.t 73), none, 0, []⟩,
        ⟨(some 76), .loadN 4 (.t 75), none, 1, []⟩,
        ⟨(some 8), .alloc 85 [(.int .i64 0), (.int .i64 0), (.string ⟨⟨[]⟩⟩), (.bool false)], none, 2, []⟩,
        ⟨none, .store 4 (.t 8) (.t 76), none, 3, []⟩]))
    (.seq
    (.many 0 ([⟨(some 78), .faddr 0 (.t 8), none, 0, []⟩,
        ⟨(some 79), .load1 (.t 78), none, 1, []⟩] ++
       (⟨(some 80), .callF 53 [(.c (.int .i64 4)), (.t 79)], none, 2, []⟩ ::
       ([⟨(some 77), .mov (.t 80), none, 3, []⟩,
        ⟨(some 81), .extract (.t 77) 0, none, 4, []⟩,
        ⟨(some 82), .extract (.t 77) 1, none, 5, []⟩,
        ⟨(some 9), .mov (.t 81), none, 6, []⟩,
        ⟨(some 10), .mov (.t 82), none, 7, []⟩]))))
    (.seq
    (.many 0 ([⟨(some 84), .faddr 1 (.t 8), none, 0, []⟩,
        ⟨(some 85), .load1 (.t 84), none, 1, []⟩] ++
       (⟨(some 86), .callF 53 [(.c (.int .i64 4)), (.t 85)], none, 2, []⟩ ::
       ([⟨(some 83), .mov (.t 86), none, 3, []⟩,
        ⟨(some 87), .extract (.t 83) 0, none, 4, []⟩,
        ⟨(some 88), .extract (.t 83) 1, none, 5, []⟩,
        ⟨(some 11), .mov (.t 87), none, 6, []⟩,
        ⟨(some 12), .mov (.t 88), none, 7, []⟩]))))
    (.seq
    (.seq
     (.region 0 ([⟨(some 89), .mov (.t 10), none, 0, []⟩,
         ⟨(some 90), .bin .neq (.t 89) (.c (.int .i64 0)), none, 1, []⟩,
         ⟨(some 91), .mov (.t 90), none, 2, []⟩,
         ⟨(some 92), .mov (.t 12), (some ((some 91), false)), 3, []⟩,
         ⟨(some 93), .bin .neq (.t 92) (.c (.int .i64 0)), (some ((some 91), false)), 4, []⟩,
         ⟨(some 94), .pick (.t 91) (.c (.bool true)) (.t 93), none, 5, []⟩,
         ⟨(some 95), .mov (.t 94), none, 6, []⟩,
         ⟨(some 96), .faddr 2 (.t 8), (some ((some 95), false)), 7, []⟩,
         ⟨(some 97), .load1 (.t 96), (some ((some 95), false)), 8, []⟩,
         ⟨(some 98), .lenS (.t 97), (some ((some 95), false)), 9, []⟩,
         ⟨(some 99), .bin .gtr (.t 98) (.c (.int .i64 31)), (some ((some 95), false)), 10, []⟩,
         ⟨(some 100), .pick (.t 95) (.c (.bool true)) (.t 99), none, 11, []⟩]))
     (.cond (.t 100)
      (.seq
       (.region 0 ([⟨(some 2), .mov (.c (.slice none 0 0)), none, 0, []⟩,
           ⟨(some 3), .mov (.c (.int .i64 2)), none, 1, []⟩]))
       (.ret))
      (.skip)))
    (.seq
    (.region 0 ([⟨(some 13), .mov (.c (.int .u8 0)), none, 0, []⟩]))
    (.seq
    (.seq
     (.region 0 ([⟨(some 101), .faddr 3 (.t 8), none, 0, []⟩,
         ⟨(some 102), .load1 (.t 101), none, 1, []⟩]))
     (.cond (.t 102)
      (.region 0 ([⟨(some 13), .mov (.c (.int .u8 1)), none, 0, []⟩]))
      (.skip)))
    (.many 11 ([⟨(some 103), .mov (.t 6), none, 0, []⟩,
       ⟨(some 104), .mov (.t 9), none, 1, []⟩,
       ⟨(some 105), .mov (.t 11), none, 2, []⟩,
       ⟨(some 106), .mov (.t 13), none, 3, []⟩,
       ⟨(some 107), .buildSlice 5 1 [(.int .u8 0)] [(0, 1, (.t 106))], none, 4, []⟩,
       ⟨(some 108), .faddr 2 (.t 8), none, 5, []⟩,
       ⟨(some 109), .load1 (.t 108), none, 6, []⟩] ++
      (⟨(some 110), .callF 30 [(.t 109)], none, 7, []⟩ ::
      ([⟨(some 111), .buildSlice 26 5 [(.slice none 0 0), (.slice none 0 0), (.slice none 0 0), (.slice none 0 0), (.slice none 0 0)] [(0, 1, (.t 103)), (1, 1, (.t 104)), (2, 1, (.t 105)), (3, 1, (.t 107)), (4, 1, (.t 110))], none, 8, []⟩] ++
      (⟨(some 112), .callF 32 [(.t 111)], none, 9, []⟩ ::
      ([⟨(some 6), .mov (.t 112), none, 10, []⟩])))))))))))))
 (.region 0 ([⟨(some 113), .bin .add (.t 73) (.c (.int .i64 1)), none, 0, []⟩,
    ⟨(some 73), .mov (.t 113), none, 1, []⟩])))))
def client_PutReply : CFunc := ⟨115,
 (.seq
 (.region 3 ([⟨(some 1), .box 40 (.t 0), none, 0, []⟩,
     ⟨(some 2), .mov (.c (.slice none 0 0)), none, 1, []⟩,
     ⟨(some 3), .mov (.c (.int .i64 0)), none, 2, []⟩]))
 (.seq
 (.seq
  (.many 0 ([⟨(some 14), .faddr 0 (.t 1), none, 0, []⟩,
      ⟨(some 15), .load1 (.t 14), none, 1, []⟩,
      ⟨(some 16), .bin .lss (.t 15) (.c (.int .i64 0)), none, 2, []⟩,
      ⟨(some 17), .mov (.t 16), none, 3, []⟩,
      ⟨(some 18), .faddr 0 (.t 1), (some ((some 17), false)), 4, []⟩,
      ⟨(some 19), .load1 (.t 18), (some ((some 17), false)), 5, []⟩,
      ⟨(some 20), .bin .gtr (.t 19) (.c (.int .i64 65535)), (some ((some 17), false)), 6, []⟩,
      ⟨(some 21), .pick (.t 17) (.c (.bool true)) (.t 20), none, 7, []⟩,
      ⟨(some 22), .mov (.t 21), none, 8, []⟩,
      ⟨(some 23), .faddr 1 (.t 1), (some ((some 22), false)), 9, []⟩,
      ⟨(some 24), .load1 (.t 23), (some ((some 22), false)), 10, []⟩] ++
     (⟨(some 25), .callF 29 [(.t 24)], (some ((some 22), false)), 11, []⟩ ::
     ([⟨(some 26), .un .not (.t 25), (some ((some 22), false)), 12, []⟩,
      ⟨(some 27), .pick (.t 22) (.c (.bool true)) (.t 26), none, 13, []⟩,
      ⟨(some 28), .mov (.t 27), none, 14, []⟩,
      ⟨(some 29), .faddr 2 (.t 1), (some ((some 28), false)), 15, []⟩,
      ⟨(some 30), .load1 (.t 29), (some ((some 28), false)), 16, []⟩,
      ⟨(some 31), .lenS (.t 30), (some ((some 28), false)), 17, []⟩,
      ⟨(some 32), .bin .gtr (.t 31) (.c (.int .i64 65535)), (some ((some 28), false)), 18, []⟩,
      ⟨(some 33), .pick (.t 28) (.c (.bool true)) (.t 32), none, 19, []⟩,
      ⟨(some 34), .mov (.t 33), none, 20, []⟩,
      ⟨(some 35), .faddr 3 (.t 1), (some ((some 34), false)), 21, []⟩,
      ⟨(some 36), .load1 (.t 35), (some ((some 34), false)), 22, []⟩,
      ⟨(some 37), .lenV (.t 36), (some ((some 34), false)), 23, []⟩,
      ⟨(some 38), .bin .gtr (.t 37) (.c (.int .i64 300)), (some ((some 34), false)), 24, []⟩,
      ⟨(some 39), .pick (.t 34) (.c (.bool true)) (.t 38), none, 25, []⟩,
      ⟨(some 40), .mov (.t 39), none, 26, []⟩,
      ⟨(some 41), .faddr 4 (.t 1), (some ((some 40), false)), 27, []⟩,
      ⟨(some 42), .load1 (.t 41), (some ((some 40), false)), 28, []⟩,
      ⟨(some 43), .lenV (.t 42), (some ((some 40), false)), 29, []⟩,
      ⟨(some 44), .bin .gtr (.t 43) (.c (.int .i64 20)), (some ((some 40), false)), 30, []⟩,
      ⟨(some 45), .pick (.t 40) (.c (.bool true)) (.t 44), none, 31, []⟩]))))
  (.cond (.t 45)
   (.seq
    (.region 0 ([⟨(some 2), .mov (.c (.slice none 0 0)), none, 0, []⟩,
        ⟨(some 3), .mov (.c (.int .i64 2)), none, 1, []⟩]))
    (.ret))
   (.skip)))
 (.seq
 (.many 0 ([⟨(some 47), .faddr 0 (.t 1), none, 0, []⟩,
     ⟨(some 48), .load1 (.t 47), none, 1, []⟩] ++
    (⟨(some 49), .callF 53 [(.c (.int .i64 2)), (.t 48)], none, 2, []⟩ ::
    ([⟨(some 46), .mov (.t 49), none, 3, []⟩,
     ⟨(some 50), .extract (.t 46) 0, none, 4, []⟩,
     ⟨(some 51), .extract (.t 46) 1, none, 5, []⟩,
     ⟨(some 4), .mov (.t 50), none, 6, []⟩,
     ⟨(some 5), .mov (.t 51), none, 7, []⟩]))))
 (.seq
 (.region 19 ([⟨(some 52), .mov (.t 4), none, 0, []⟩,
     ⟨(some 53), .faddr 1 (.t 1), none, 1, []⟩,
     ⟨(some 54), .load1 (.t 53), none, 2, []⟩,
     ⟨(some 56), .faddr 2 (.t 1), none, 4, []⟩,
     ⟨(some 57), .load1 (.t 56), none, 5, []⟩,
     ⟨(some 60), .faddr 3 (.t 1), none, 8, []⟩,
     ⟨(some 61), .load1 (.t 60), none, 9, []⟩,
     ⟨(some 63), .faddr 4 (.t 1), none, 11, []⟩,
     ⟨(some 64), .load1 (.t 63), none, 12, []⟩,
     ⟨(some 65), .lenV (.t 64), none, 13, []⟩,
     ⟨(some 66), .convI .u8 (.t 65), none, 14, []⟩] ++
    (⟨(some 55), .callF 31 [(.t 54)], none, 3, [((some 57), .load1 (.t 56), none), ((some 61), .load1 (.t 60), none), ((some 64), .load1 (.t 63), none)]⟩ ::
    ([⟨(some 58), .convSB 5 (.t 57), none, 6, []⟩] ++
    (⟨(some 59), .callF 34 [(.t 58)], none, 7, [((some 61), .load1 (.t 60), none), ((some 64), .load1 (.t 63), none)]⟩ ::
    (⟨(some 62), .callF 34 [(.t 61)], none, 10, [((some 64), .load1 (.t 63), none)]⟩ ::
    ([⟨(some 67), .buildSlice 5 1 [(.int .u8 0)] [(0, 1, (.t 66))], none, 15, []⟩,
     ⟨(some 68), .buildSlice 26 5 [(.slice none 0 0), (.slice none 0 0), (.slice none 0 0), (.slice none 0 0), (.slice none 0 0)] [(0, 1, (.t 52)), (1, 1, (.t 55)), (2, 1, (.t 59)), (3, 1, (.t 62)), (4, 1, (.t 67))], none, 16, []⟩] ++
    (⟨(some 69), .callF 32 [(.t 68)], none, 17, []⟩ ::
    ([⟨(some 6), .mov (.t 69), none, 18, []⟩])))))))))
 (.seq
 (.seq
  (.region 0 ([⟨(some 70), .faddr 4 (.t 1), none, 0, []⟩,
      ⟨(some 71), .load1 (.t 70), none, 1, []⟩,
      ⟨(some 72), .lenV (.t 71), none, 2, []⟩,
      ⟨(some 73), .mov (.c (.int .i64 0)), none, 3, []⟩]))
  (.block 0
   (.loop client_PutReply_l0)))
 (.seq
 (.region 0 ([⟨(some 114), .mov (.t 6), none, 0, []⟩,
     ⟨(some 2), .mov (.t 114), none, 1, []⟩,
     ⟨(some 3), .mov (.c (.int .i64 0)), none, 2, []⟩]))
 (.ret))))))),
 [.tmp 2, .tmp 3]⟩
def tithingref26_PutReply_l0 : CCode :=
 (.seq
 (.seq
  (.region 0 ([⟨(some 73), .mov (.t 5), none, 0, []⟩,
      ⟨(some 74), .faddr 4 (.t 1), none, 1, []⟩,
      ⟨(some 75), .load1 (.t 74), none, 2, []⟩,
      ⟨(some 76), .lenV (.t 75), none, 3, []⟩,
      ⟨(some 77), .bin .lss (.t 73) (.t 76), none, 4, []⟩]))
  (.cond (.t 77)
   (.skip)
   (.exit 0)))
 (.seq
 (.block 1
   (.seq
    (.many 0 ([⟨(some 80), .mov (.t 4), none, 0, []⟩,
        ⟨(some 81), .faddr 4 (.t 1), none, 1, []⟩,
        ⟨(some 82), .load1 (.t 81), none, 2, []⟩,
        ⟨(some 83), .mov (.t 5), none, 3, []⟩,
        ⟨(some 84), .iaddrV 4 (.t 82) (.t 83), none, 4, []⟩,
        ⟨(some 85), .faddr 0 (.t 84), none, 5, []⟩,
        ⟨(some 86), .load1 (.t 85), none, 6, []⟩] ++
       (⟨(some 87), .callF 54 [(.t 80), (.t 86)], none, 7, []⟩ ::
       ([]))))
    (.seq
    (.many 0 ([⟨(some 88), .mov (.t 4), none, 0, []⟩,
        ⟨(some 89), .faddr 4 (.t 1), none, 1, []⟩,
        ⟨(some 90), .load1 (.t 89), none, 2, []⟩,
        ⟨(some 91), .mov (.t 5), none, 3, []⟩,
        ⟨(some 92), .iaddrV 4 (.t 90) (.t 91), none, 4, []⟩,
        ⟨(some 93), .faddr 1 (.t 92), none, 5, []⟩,
        ⟨(some 94), .load1 (.t 93), none, 6, []⟩] ++
       (⟨(some 95), .callF 54 [(.t 88), (.t 94)], none, 7, []⟩ ::
       ([]))))
    (.seq
    (.region 0 ([⟨(some 6), .mov (.c (.int .u8 0)), none, 0, []⟩]))
    (.seq
    (.seq
     (.region 0 ([⟨(some 96), .faddr 4 (.t 1), none, 0, []⟩,
         ⟨(some 97), .load1 (.t 96), none, 1, []⟩,
         ⟨(some 98), .mov (.t 5), none, 2, []⟩,
         ⟨(some 99), .iaddrV 4 (.t 97) (.t 98), none, 3, []⟩,
         ⟨(some 100), .faddr 3 (.t 99), none, 4, []⟩,
         ⟨(some 101), .load1 (.t 100), none, 5, []⟩]))
     (.cond (.t 101)
      (.region 0 ([⟨(some 6), .mov (.c (.int .u8 1)), none, 0, []⟩]))
      (.skip)))
    (.seq
    (.region 11 ([⟨(some 102), .mov (.t 4), none, 0, []⟩,
        ⟨(some 103), .mov (.t 4), none, 1, []⟩,
        ⟨(some 104), .nilCheck (.t 103), none, 2, []⟩,
        ⟨(some 105), .faddr 0 (.t 104), none, 3, []⟩,
        ⟨(some 106), .load1 (.t 105), none, 4, []⟩,
        ⟨(some 107), .mov (.t 6), none, 5, []⟩,
        ⟨(some 108), .buildSlice 5 1 [(.int .u8 0)] [(0, 1, (.t 107))], none, 6, []⟩,
        ⟨(some 109), .append 5 1 1 (.t 106) (.t 108), none, 7, []⟩,
        ⟨(some 110), .nilCheck (.t 102), none, 8, []⟩,
        ⟨(some 111), .faddr 0 (.t 110), none, 9, []⟩,
        ⟨none, .store 1 (.t 111) (.t 109), none, 10, []⟩]))
    (.many 0 ([⟨(some 112), .mov (.t 4), none, 0, []⟩,
       ⟨(some 113), .faddr 4 (.t 1), none, 1, []⟩,
       ⟨(some 114), .load1 (.t 113), none, 2, []⟩,
       ⟨(some 115), .mov (.t 5), none, 3, []⟩,
       ⟨(some 116), .iaddrV 4 (.t 114) (.t 115), none, 4, []⟩,
       ⟨(some 117), .faddr 2 (.t 116), none, 5, []⟩,
       ⟨(some 118), .load1 (.t 117), none, 6, []⟩] ++
      (⟨(some 119), .callF 35 [(.t 112), (.t 118)], none, 7, []⟩ ::
      ([]))))))))))
 (.region 0 ([⟨(some 78), .mov (.t 5), none, 0, []⟩,
    ⟨(some 79), .bin .add (.t 78) (.c (.int .i64 1)), none, 1, []⟩,
    ⟨(some 5), .mov (.t 79), none, 2, []⟩]))))
def tithingref26_PutReply : CFunc := ⟨128,
 (.seq
 (.region 3 ([⟨(some 1), .box 40 (.t 0), none, 0, []⟩,
     ⟨(some 2), .mov (.c (.slice none 0 0)), none, 1, []⟩,
     ⟨(some 3), .mov (.c (.int .i64 0)), none, 2, []⟩]))
 (.seq
 (.region 3 ([⟨(some 7), .build [(.slice none 0 0), (.bool false)] [], none, 0, []⟩,
     ⟨(some 8), .box 69 (.t 7), none, 1, []⟩,
     ⟨(some 4), .mov (.t 8), none, 2, []⟩]))
 (.seq
 (.many 0 ([⟨(some 9), .mov (.t 4), none, 0, []⟩,
     ⟨(some 10), .faddr 0 (.t 1), none, 1, []⟩,
     ⟨(some 11), .load1 (.t 10), none, 2, []⟩] ++
    (⟨(some 12), .callF 39 [(.t 9), (.t 11), (.c (.int .i64 65535))], none, 3, []⟩ ::
    ([]))))
 (.seq
 (.many 0 ([⟨(some 13), .mov (.t 4), none, 0, []⟩,
     ⟨(some 14), .faddr 1 (.t 1), none, 1, []⟩,
     ⟨(some 15), .load1 (.t 14), none, 2, []⟩] ++
    (⟨(some 16), .callF 36 [(.t 13), (.t 15)], none, 3, []⟩ ::
    ([]))))
 (.seq
 (.many 0 ([⟨(some 17), .mov (.t 4), none, 0, []⟩,
     ⟨(some 18), .faddr 2 (.t 1), none, 1, []⟩,
     ⟨(some 19), .load1 (.t 18), none, 2, []⟩,
     ⟨(some 20), .lenS (.t 19), none, 3, []⟩] ++
    (⟨(some 21), .callF 39 [(.t 17), (.t 20), (.c (.int .i64 65535))], none, 4, []⟩ ::
    ([]))))
 (.seq
 (.region 0 ([⟨(some 22), .mov (.t 4), none, 0, []⟩,
     ⟨(some 23), .mov (.t 4), none, 1, []⟩,
     ⟨(some 24), .nilCheck (.t 23), none, 2, []⟩,
     ⟨(some 25), .faddr 0 (.t 24), none, 3, []⟩,
     ⟨(some 26), .load1 (.t 25), none, 4, []⟩,
     ⟨(some 27), .faddr 2 (.t 1), none, 5, []⟩,
     ⟨(some 28), .load1 (.t 27), none, 6, []⟩,
     ⟨(some 29), .append 5 1 1 (.t 26) (.t 28), none, 7, []⟩,
     ⟨(some 30), .nilCheck (.t 22), none, 8, []⟩,
     ⟨(some 31), .faddr 0 (.t 30), none, 9, []⟩,
     ⟨none, .store 1 (.t 31) (.t 29), none, 10, []⟩]))
 (.seq
 (.many 0 ([⟨(some 32), .mov (.t 4), none, 0, []⟩,
     ⟨(some 33), .faddr 3 (.t 1), none, 1, []⟩,
     ⟨(some 34), .load1 (.t 33), none, 2, []⟩,
     ⟨(some 35), .lenV (.t 34), none, 3, []⟩] ++
    (⟨(some 36), .callF 39 [(.t 32), (.t 35), (.c (.int .i64 300))], none, 4, []⟩ ::
    ([]))))
 (.seq
 (.region 0 ([⟨(some 37), .mov (.t 4), none, 0, []⟩,
     ⟨(some 38), .mov (.t 4), none, 1, []⟩,
     ⟨(some 39), .nilCheck (.t 38), none, 2, []⟩,
     ⟨(some 40), .faddr 0 (.t 39), none, 3, []⟩,
     ⟨(some 41), .load1 (.t 40), none, 4, []⟩,
     ⟨(some 42), .faddr 3 (.t 1), none, 5, []⟩,
     ⟨(some 43), .load1 (.t 42), none, 6, []⟩,
     ⟨(some 44), .append 5 1 1 (.t 41) (.t 43), none, 7, []⟩,
     ⟨(some 45), .nilCheck (.t 37), none, 8, []⟩,
     ⟨(some 46), .faddr 0 (.t 45), none, 9, []⟩,
     ⟨none, .store 1 (.t 46) (.t 44), none, 10, []⟩]))
 (.seq
 (.region 0 ([⟨(some 47), .mov (.t 4), none, 0, []⟩,
     ⟨(some 48), .mov (.t 4), none, 1, []⟩,
     ⟨(some 49), .nilCheck (.t 48), none, 2, []⟩,
     ⟨(some 50), .faddr 1 (.t 49), none, 3, []⟩,
     ⟨(some 51), .load1 (.t 50), none, 4, []⟩,
     ⟨(some 52), .mov (.t 51), none, 5, []⟩,
     ⟨(some 53), .faddr 4 (.t 1), (some ((some 52), false)), 6, []⟩,
     ⟨(some 54), .load1 (.t 53), (some ((some 52), false)), 7, []⟩,
     ⟨(some 55), .lenV (.t 54), (some ((some 52), false)), 8, []⟩,
     ⟨(some 56), .bin .gtr (.t 55) (.c (.int .i64 20)), (some ((some 52), false)), 9, []⟩,
     ⟨(some 57), .pick (.t 52) (.c (.bool true)) (.t 56), none, 10, []⟩,
     ⟨(some 58), .nilCheck (.t 47), none, 11, []⟩,
     ⟨(some 59), .faddr 1 (.t 58), none, 12, []⟩,
     ⟨none, .store 1 (.t 59) (.t 57), none, 13, []⟩]))
 (.seq
 (.region 14 ([⟨(some 60), .mov (.t 4), none, 0, []⟩,
     ⟨(some 61), .mov (.t 4), none, 1, []⟩,
     ⟨(some 62), .nilCheck (.t 61), none, 2, []⟩,
     ⟨(some 63), .faddr 0 (.t 62), none, 3, []⟩,
     ⟨(some 64), .load1 (.t 63), none, 4, []⟩,
     ⟨(some 65), .faddr 4 (.t 1), none, 5, []⟩,
     ⟨(some 66), .load1 (.t 65), none, 6, []⟩,
     ⟨(some 67), .lenV (.t 66), none, 7, []⟩,
     ⟨(some 68), .convI .u8 (.t 67), none, 8, []⟩,
     ⟨(some 69), .buildSlice 5 1 [(.int .u8 0)] [(0, 1, (.t 68))], none, 9, []⟩,
     ⟨(some 70), .append 5 1 1 (.t 64) (.t 69), none, 10, []⟩,
     ⟨(some 71), .nilCheck (.t 60), none, 11, []⟩,
     ⟨(some 72), .faddr 0 (.t 71), none, 12, []⟩,
     ⟨none, .store 1 (.t 72) (.t 70), none, 13, []⟩]))
 (.seq
 (.seq
  (.region 0 ([⟨(some 5), .mov (.c (.int .i64 0)), none, 0, []⟩]))
  (.block 0
   (.loop tithingref26_PutReply_l0)))
 (.seq
 (.seq
  (.region 0 ([⟨(some 120), .mov (.t 4), none, 0, []⟩,
      ⟨(some 121), .nilCheck (.t 120), none, 1, []⟩,
      ⟨(some 122), .faddr 1 (.t 121), none, 2, []⟩,
      ⟨(some 123), .load1 (.t 122), none, 3, []⟩]))
  (.cond (.t 123)
   (.seq
    (.region 0 ([⟨(some 2), .mov (.c (.slice none 0 0)), none, 0, []⟩,
        ⟨(some 3), .mov (.c (.int .i64 2)), none, 1, []⟩]))
    (.ret))
   (.skip)))
 (.seq
 (.region 0 ([⟨(some 124), .mov (.t 4), none, 0, []⟩,
     ⟨(some 125), .nilCheck (.t 124), none, 1, []⟩,
     ⟨(some 126), .faddr 0 (.t 125), none, 2, []⟩,
     ⟨(some 127), .load1 (.t 126), none, 3, []⟩,
     ⟨(some 2), .mov (.t 127), none, 4, []⟩,
     ⟨(some 3), .mov (.c (.int .i64 0)), none, 5, []⟩]))
 (.ret)))))))))))))),
 [.tmp 2, .tmp 3]⟩
def client_isNumber : CFunc := ⟨9,
 (.seq
 (.region 0 ([⟨(some 2), .mov (.c (.bool false)), none, 0, []⟩]))
 (.seq
 (.region 0 ([⟨(some 3), .mov (.t 0), none, 0, []⟩,
     ⟨(some 4), .bin .geq (.t 3) (.c (.int .i64 (-2147483648))), none, 1, []⟩,
     ⟨(some 5), .mov (.t 4), none, 2, []⟩,
     ⟨(some 6), .mov (.t 0), (some ((some 5), true)), 3, []⟩,
     ⟨(some 7), .bin .lss (.t 6) (.c (.int .i64 2147483648)), (some ((some 5), true)), 4, []⟩,
     ⟨(some 8), .pick (.t 5) (.t 7) (.c (.bool false)), none, 5, []⟩,
     ⟨(some 2), .mov (.t 8), none, 6, []⟩]))
 (.ret))),
 [.tmp 2]⟩
def client_counted : CFunc := ⟨11,
 (.seq
 (.region 0 ([⟨(some 2), .mov (.c (.slice none 0 0)), none, 0, []⟩]))
 (.seq
 (.many 0 ([⟨(some 6), .mov (.t 0), none, 0, []⟩] ++
    (⟨(some 7), .callF 80 [(.t 6)], none, 1, []⟩ ::
    ([⟨(some 5), .mov (.t 7), none, 2, []⟩,
     ⟨(some 8), .extract (.t 5) 0, none, 3, []⟩,
     ⟨(some 9), .extract (.t 5) 1, none, 4, []⟩,
     ⟨(some 3), .mov (.t 8), none, 5, []⟩,
     ⟨(some 4), .mov (.t 9), none, 6, []⟩]))))
 (.seq
 (.region 0 ([⟨(some 10), .mov (.t 3), none, 0, []⟩,
     ⟨(some 2), .mov (.t 10), none, 1, []⟩]))
 (.ret)))),
 [.tmp 2]⟩
def client_number : CFunc := ⟨12,
 (.seq
 (.region 0 ([⟨(some 2), .mov (.c (.slice none 0 0)), none, 0, []⟩]))
 (.seq
 (.many 0 ([⟨(some 6), .mov (.t 0), none, 0, []⟩,
     ⟨(some 7), .bin .add (.t 6) (.c (.int .i64 2147483648)), none, 1, []⟩] ++
    (⟨(some 8), .callF 53 [(.c (.int .i64 4)), (.t 7)], none, 2, []⟩ ::
    ([⟨(some 5), .mov (.t 8), none, 3, []⟩,
     ⟨(some 9), .extract (.t 5) 0, none, 4, []⟩,
     ⟨(some 10), .extract (.t 5) 1, none, 5, []⟩,
     ⟨(some 3), .mov (.t 9), none, 6, []⟩,
     ⟨(some 4), .mov (.t 10), none, 7, []⟩]))))
 (.seq
 (.region 0 ([⟨(some 11), .mov (.t 3), none, 0, []⟩,
     ⟨(some 2), .mov (.t 11), none, 1, []⟩]))
 (.ret)))),
 [.tmp 2]⟩
def slices_Concat_byte_byte_l0 : CCode :=
 (.seq
 (.region 0 ([⟨(some 12), .bin .lss (.t 11) (.t 10), none, 0, []⟩]))
 (.seq
 (.cond (.t 12)
   (.skip)
   (.exit 0))
 (.seq
 (.block 1
   (.seq
    (.region 0 ([⟨(some 13), .iaddrV 1 (.t 9) (.t 11), none, 0, []⟩,
        ⟨(some 14), .load1 (.t 13), none, 1, []⟩,
        ⟨(some 5), .mov (.t 14), none, 2, []⟩]))
    (.seq
    (.region 0 ([⟨(some 15), .mov (.t 3), none, 0, []⟩,
        ⟨(some 16), .mov (.t 5), none, 1, []⟩,
        ⟨(some 17), .lenV (.t 16), none, 2, []⟩,
        ⟨(some 18), .bin .add (.t 15) (.t 17), none, 3, []⟩,
        ⟨(some 3), .mov (.t 18), none, 4, []⟩]))
    (.seq
    (.region 0 ([⟨(some 19), .mov (.t 3), none, 0, []⟩,
        ⟨(some 20), .bin .lss (.t 19) (.c (.int .i64 0)), none, 1, []⟩]))
    (.cond (.t 20)
     (.no)
     (.skip))))))
 (.region 0 ([⟨(some 22), .bin .add (.t 11) (.c (.int .i64 1)), none, 0, []⟩,
    ⟨(some 11), .mov (.t 22), none, 1, []⟩])))))
def slices_Concat_byte_byte_l1 : CCode :=
 (.seq
 (.region 0 ([⟨(some 28), .bin .lss (.t 27) (.t 26), none, 0, []⟩]))
 (.seq
 (.cond (.t 28)
   (.skip)
   (.exit 2))
 (.seq
 (.block 3
   (.seq
    (.region 0 ([⟨(some 29), .iaddrV 1 (.t 25) (.t 27), none, 0, []⟩,
        ⟨(some 30), .load1 (.t 29), none, 1, []⟩,
        ⟨(some 8), .mov (.t 30), none, 2, []⟩]))
    (.region 0 ([⟨(some 31), .mov (.t 6), none, 0, []⟩,
       ⟨(some 32), .mov (.t 8), none, 1, []⟩,
       ⟨(some 33), .append 5 1 1 (.t 31) (.t 32), none, 2, []⟩,
       ⟨(some 6), .mov (.t 33), none, 3, []⟩]))))
 (.region 0 ([⟨(some 34), .bin .add (.t 27) (.c (.int .i64 1)), none, 0, []⟩,
    ⟨(some 27), .mov (.t 34), none, 1, []⟩])))))
def slices_Concat_byte_byte : CFunc := ⟨36,
 (.seq
 (.region 0 ([⟨(some 2), .mov (.c (.slice none 0 0)), none, 0, []⟩]))
 (.seq
 (.region 0 ([⟨(some 3), .mov (.c (.int .i64 0)), none, 0, []⟩]))
 (.seq
 (.seq
  (.region 0 ([⟨(some 9), .mov (.t 0), none, 0, []⟩,
      ⟨(some 10), .lenV (.t 9), none, 1, []⟩,
      ⟨(some 11), .mov (.c (.int .i64 0)), none, 2, []⟩]))
  (.block 0
   (.loop slices_Concat_byte_byte_l0)))
 (.seq
 (.many 0 ([⟨(some 23), .mov (.t 3), none, 0, []⟩] ++
    (⟨(some 24), .callF 81 [(.c (.slice none 0 0)), (.t 23)], none, 1, []⟩ ::
    ([⟨(some 6), .mov (.t 24), none, 2, []⟩]))))
 (.seq
 (.seq
  (.region 0 ([⟨(some 25), .mov (.t 0), none, 0, []⟩,
      ⟨(some 26), .lenV (.t 25), none, 1, []⟩,
      ⟨(some 27), .mov (.c (.int .i64 0)), none, 2, []⟩]))
  (.block 2
   (.loop slices_Concat_byte_byte_l1)))
 (.seq
 (.region 0 ([⟨(some 35), .mov (.t 6), none, 0, []⟩,
     ⟨(some 2), .mov (.t 35), none, 1, []⟩]))
 (.ret))))))),
 [.tmp 2]⟩
def client_long : CFunc := ⟨14,
 (.seq
 (.region 0 ([⟨(some 2), .mov (.c (.slice none 0 0)), none, 0, []⟩]))
 (.seq
 (.many 0 ([⟨(some 6), .mov (.t 0), none, 0, []⟩,
     ⟨(some 7), .lenV (.t 6), none, 1, []⟩] ++
    (⟨(some 8), .callF 53 [(.c (.int .i64 2)), (.t 7)], none, 2, []⟩ ::
    ([⟨(some 5), .mov (.t 8), none, 3, []⟩,
     ⟨(some 9), .extract (.t 5) 0, none, 4, []⟩,
     ⟨(some 10), .extract (.t 5) 1, none, 5, []⟩,
     ⟨(some 3), .mov (.t 9), none, 6, []⟩,
     ⟨(some 4), .mov (.t 10), none, 7, []⟩]))))
 (.seq
 (.region 0 ([⟨(some 11), .mov (.t 3), none, 0, []⟩,
     ⟨(some 12), .mov (.t 0), none, 1, []⟩,
     ⟨(some 13), .append 5 1 1 (.t 11) (.t 12), none, 2, []⟩,
     ⟨(some 2), .mov (.t 13), none, 3, []⟩]))
 (.ret)))),
 [.tmp 2]⟩
def _tithing_tithingref26_writer_text : CFunc := ⟨37,
 (.seq
 (.region 0 ([⟨(some 4), .mov (.t 0), none, 0, []⟩,
     ⟨(some 5), .mov (.t 0), none, 1, []⟩,
     ⟨(some 6), .nilCheck (.t 5), none, 2, []⟩,
     ⟨(some 7), .faddr 1 (.t 6), none, 3, []⟩,
     ⟨(some 8), .load1 (.t 7), none, 4, []⟩,
     ⟨(some 9), .mov (.t 8), none, 5, []⟩,
     ⟨(some 10), .mov (.t 1), (some ((some 9), false)), 6, []⟩,
     ⟨(some 11), .lenS (.t 10), (some ((some 9), false)), 7, []⟩,
     ⟨(some 12), .bin .gtr (.t 11) (.c (.int .i64 31)), (some ((some 9), false)), 8, []⟩,
     ⟨(some 13), .pick (.t 9) (.c (.bool true)) (.t 12), none, 9, []⟩,
     ⟨(some 14), .nilCheck (.t 4), none, 10, []⟩,
     ⟨(some 15), .faddr 1 (.t 14), none, 11, []⟩,
     ⟨none, .store 1 (.t 15) (.t 13), none, 12, []⟩]))
 (.seq
 (.region 13 ([⟨(some 16), .mov (.t 0), none, 0, []⟩,
     ⟨(some 17), .mov (.t 0), none, 1, []⟩,
     ⟨(some 18), .nilCheck (.t 17), none, 2, []⟩,
     ⟨(some 19), .faddr 0 (.t 18), none, 3, []⟩,
     ⟨(some 20), .load1 (.t 19), none, 4, []⟩,
     ⟨(some 21), .mov (.t 1), none, 5, []⟩,
     ⟨(some 22), .lenS (.t 21), none, 6, []⟩,
     ⟨(some 23), .convI .u8 (.t 22), none, 7, []⟩,
     ⟨(some 24), .buildSlice 5 1 [(.int .u8 0)] [(0, 1, (.t 23))], none, 8, []⟩,
     ⟨(some 25), .append 5 1 1 (.t 20) (.t 24), none, 9, []⟩,
     ⟨(some 26), .nilCheck (.t 16), none, 10, []⟩,
     ⟨(some 27), .faddr 0 (.t 26), none, 11, []⟩,
     ⟨none, .store 1 (.t 27) (.t 25), none, 12, []⟩]))
 (.region 0 ([⟨(some 28), .mov (.t 0), none, 0, []⟩,
    ⟨(some 29), .mov (.t 0), none, 1, []⟩,
    ⟨(some 30), .nilCheck (.t 29), none, 2, []⟩,
    ⟨(some 31), .faddr 0 (.t 30), none, 3, []⟩,
    ⟨(some 32), .load1 (.t 31), none, 4, []⟩,
    ⟨(some 33), .mov (.t 1), none, 5, []⟩,
    ⟨(some 34), .append 5 1 1 (.t 32) (.t 33), none, 6, []⟩,
    ⟨(some 35), .nilCheck (.t 28), none, 7, []⟩,
    ⟨(some 36), .faddr 0 (.t 35), none, 8, []⟩,
    ⟨none, .store 1 (.t 36) (.t 34), none, 9, []⟩])))),
 []⟩
def _tithing_tithingref26_writer_four : CFunc := ⟨46,
 (.seq
 (.region 0 ([⟨(some 4), .mov (.t 0), none, 0, []⟩,
     ⟨(some 5), .mov (.t 0), none, 1, []⟩,
     ⟨(some 6), .nilCheck (.t 5), none, 2, []⟩,
     ⟨(some 7), .faddr 1 (.t 6), none, 3, []⟩,
     ⟨(some 8), .load1 (.t 7), none, 4, []⟩,
     ⟨(some 9), .mov (.t 8), none, 5, []⟩,
     ⟨(some 10), .mov (.t 1), (some ((some 9), false)), 6, []⟩,
     ⟨(some 11), .bin .lss (.t 10) (.c (.int .i64 (-2147483648))), (some ((some 9), false)), 7, []⟩,
     ⟨(some 12), .pick (.t 9) (.c (.bool true)) (.t 11), none, 8, []⟩,
     ⟨(some 13), .mov (.t 12), none, 9, []⟩,
     ⟨(some 14), .mov (.t 1), (some ((some 13), false)), 10, []⟩,
     ⟨(some 15), .bin .geq (.t 14) (.c (.int .i64 2147483648)), (some ((some 13), false)), 11, []⟩,
     ⟨(some 16), .pick (.t 13) (.c (.bool true)) (.t 15), none, 12, []⟩,
     ⟨(some 17), .nilCheck (.t 4), none, 13, []⟩,
     ⟨(some 18), .faddr 1 (.t 17), none, 14, []⟩,
     ⟨none, .store 1 (.t 18) (.t 16), none, 15, []⟩]))
 (.seq
 (.region 0 ([⟨(some 19), .mov (.t 1), none, 0, []⟩,
     ⟨(some 20), .minmax false [(.c (.int .i64 2147483647)), (.t 19)], none, 1, []⟩,
     ⟨(some 21), .minmax true [(.c (.int .i64 (-2147483648))), (.t 20)], none, 2, []⟩,
     ⟨(some 22), .bin .add (.t 21) (.c (.int .i64 2147483648)), none, 3, []⟩,
     ⟨(some 1), .mov (.t 22), none, 4, []⟩]))
 (.region 24 ([⟨(some 23), .mov (.t 0), none, 0, []⟩,
    ⟨(some 24), .mov (.t 0), none, 1, []⟩,
    ⟨(some 25), .nilCheck (.t 24), none, 2, []⟩,
    ⟨(some 26), .faddr 0 (.t 25), none, 3, []⟩,
    ⟨(some 27), .load1 (.t 26), none, 4, []⟩,
    ⟨(some 28), .mov (.t 1), none, 5, []⟩,
    ⟨(some 29), .bin .quo (.t 28) (.c (.int .i64 16777216)), none, 6, []⟩,
    ⟨(some 30), .convI .u8 (.t 29), none, 7, []⟩,
    ⟨(some 31), .mov (.t 1), none, 8, []⟩,
    ⟨(some 32), .bin .quo (.t 31) (.c (.int .i64 65536)), none, 9, []⟩,
    ⟨(some 33), .bin .rem (.t 32) (.c (.int .i64 256)), none, 10, []⟩,
    ⟨(some 34), .convI .u8 (.t 33), none, 11, []⟩,
    ⟨(some 35), .mov (.t 1), none, 12, []⟩,
    ⟨(some 36), .bin .quo (.t 35) (.c (.int .i64 256)), none, 13, []⟩,
    ⟨(some 37), .bin .rem (.t 36) (.c (.int .i64 256)), none, 14, []⟩,
    ⟨(some 38), .convI .u8 (.t 37), none, 15, []⟩,
    ⟨(some 39), .mov (.t 1), none, 16, []⟩,
    ⟨(some 40), .bin .rem (.t 39) (.c (.int .i64 256)), none, 17, []⟩,
    ⟨(some 41), .convI .u8 (.t 40), none, 18, []⟩,
    ⟨(some 42), .buildSlice 5 4 [(.int .u8 0), (.int .u8 0), (.int .u8 0), (.int .u8 0)] [(0, 1, (.t 30)), (1, 1, (.t 34)), (2, 1, (.t 38)), (3, 1, (.t 41))], none, 19, []⟩,
    ⟨(some 43), .append 5 1 1 (.t 27) (.t 42), none, 20, []⟩,
    ⟨(some 44), .nilCheck (.t 23), none, 21, []⟩,
    ⟨(some 45), .faddr 0 (.t 44), none, 22, []⟩,
    ⟨none, .store 1 (.t 45) (.t 43), none, 23, []⟩])))),
 []⟩
def _tithing_tithingref26_writer_two : CFunc := ⟨37,
 (.seq
 (.region 0 ([⟨(some 6), .mov (.t 0), none, 0, []⟩,
     ⟨(some 7), .mov (.t 0), none, 1, []⟩,
     ⟨(some 8), .nilCheck (.t 7), none, 2, []⟩,
     ⟨(some 9), .faddr 1 (.t 8), none, 3, []⟩,
     ⟨(some 10), .load1 (.t 9), none, 4, []⟩,
     ⟨(some 11), .mov (.t 10), none, 5, []⟩,
     ⟨(some 12), .mov (.t 1), (some ((some 11), false)), 6, []⟩,
     ⟨(some 13), .bin .lss (.t 12) (.c (.int .i64 0)), (some ((some 11), false)), 7, []⟩,
     ⟨(some 14), .pick (.t 11) (.c (.bool true)) (.t 13), none, 8, []⟩,
     ⟨(some 15), .mov (.t 14), none, 9, []⟩,
     ⟨(some 16), .mov (.t 1), (some ((some 15), false)), 10, []⟩,
     ⟨(some 17), .mov (.t 2), (some ((some 15), false)), 11, []⟩,
     ⟨(some 18), .bin .gtr (.t 16) (.t 17), (some ((some 15), false)), 12, []⟩,
     ⟨(some 19), .pick (.t 15) (.c (.bool true)) (.t 18), none, 13, []⟩,
     ⟨(some 20), .nilCheck (.t 6), none, 14, []⟩,
     ⟨(some 21), .faddr 1 (.t 20), none, 15, []⟩,
     ⟨none, .store 1 (.t 21) (.t 19), none, 16, []⟩]))
 (.region 16 ([⟨(some 22), .mov (.t 0), none, 0, []⟩,
    ⟨(some 23), .mov (.t 0), none, 1, []⟩,
    ⟨(some 24), .nilCheck (.t 23), none, 2, []⟩,
    ⟨(some 25), .faddr 0 (.t 24), none, 3, []⟩,
    ⟨(some 26), .load1 (.t 25), none, 4, []⟩,
    ⟨(some 27), .mov (.t 1), none, 5, []⟩,
    ⟨(some 28), .bin .quo (.t 27) (.c (.int .i64 256)), none, 6, []⟩,
    ⟨(some 29), .convI .u8 (.t 28), none, 7, []⟩,
    ⟨(some 30), .mov (.t 1), none, 8, []⟩,
    ⟨(some 31), .bin .rem (.t 30) (.c (.int .i64 256)), none, 9, []⟩,
    ⟨(some 32), .convI .u8 (.t 31), none, 10, []⟩,
    ⟨(some 33), .buildSlice 5 2 [(.int .u8 0), (.int .u8 0)] [(0, 1, (.t 29)), (1, 1, (.t 32))], none, 11, []⟩,
    ⟨(some 34), .append 5 1 1 (.t 26) (.t 33), none, 12, []⟩,
    ⟨(some 35), .nilCheck (.t 22), none, 13, []⟩,
    ⟨(some 36), .faddr 0 (.t 35), none, 14, []⟩,
    ⟨none, .store 1 (.t 36) (.t 34), none, 15, []⟩]))),
 []⟩
def _tithing_client_reader_number : CFunc := ⟨6,
 (.seq
 (.region 0 ([⟨(some 2), .mov (.c (.int .i64 0)), none, 0, []⟩]))
 (.seq
 (.many 0 ([⟨(some 3), .mov (.t 0), none, 0, []⟩] ++
    (⟨(some 4), .callF 55 [(.t 3), (.c (.int .i64 4))], none, 1, []⟩ ::
    ([⟨(some 5), .bin .sub (.t 4) (.c (.int .i64 2147483648)), none, 2, []⟩,
     ⟨(some 2), .mov (.t 5), none, 3, []⟩]))))
 (.ret))),
 [.tmp 2]⟩
def _tithing_client_reader_most : CFunc := ⟨14,
 (.seq
 (.region 0 ([⟨(some 4), .mov (.c (.int .i64 0)), none, 0, []⟩]))
 (.seq
 (.many 0 ([⟨(some 6), .mov (.t 0), none, 0, []⟩] ++
    (⟨(some 7), .callF 55 [(.t 6), (.c (.int .i64 1))], none, 1, []⟩ ::
    ([⟨(some 5), .mov (.t 7), none, 2, []⟩]))))
 (.seq
 (.seq
  (.region 0 ([⟨(some 8), .mov (.t 5), none, 0, []⟩,
      ⟨(some 9), .mov (.t 1), none, 1, []⟩,
      ⟨(some 10), .bin .gtr (.t 8) (.t 9), none, 2, []⟩]))
  (.cond (.t 10)
   (.many 0 ([⟨(some 11), .mov (.t 0), none, 0, []⟩] ++
      (⟨(some 12), .callF 84 [(.t 11)], none, 1, []⟩ ::
      ([]))))
   (.skip)))
 (.seq
 (.region 0 ([⟨(some 13), .mov (.t 5), none, 0, []⟩,
     ⟨(some 4), .mov (.t 13), none, 1, []⟩]))
 (.ret))))),
 [.tmp 4]⟩
def octet_Put_l0 : CCode :=
 (.seq
 (.seq
  (.region 0 ([⟨(some 24), .mov (.t 7), none, 0, []⟩,
      ⟨(some 25), .bin .geq (.t 24) (.c (.int .i64 0)), none, 1, []⟩]))
  (.cond (.t 25)
   (.skip)
   (.exit 0)))
 (.seq
 (.block 1
   (.region 9 ([⟨(some 28), .mov (.t 6), none, 0, []⟩,
       ⟨(some 29), .mov (.t 1), none, 1, []⟩,
       ⟨(some 30), .mov (.t 7), none, 2, []⟩,
       ⟨(some 31), .bin .mul (.c (.int .i64 8)) (.t 30), none, 3, []⟩,
       ⟨(some 32), .bin .shr (.t 29) (.t 31), none, 4, []⟩,
       ⟨(some 33), .convI .u8 (.t 32), none, 5, []⟩,
       ⟨(some 34), .buildSlice 5 1 [(.int .u8 0)] [(0, 1, (.t 33))], none, 6, []⟩,
       ⟨(some 35), .append 5 1 1 (.t 28) (.t 34), none, 7, []⟩,
       ⟨(some 6), .mov (.t 35), none, 8, []⟩])))
 (.region 0 ([⟨(some 26), .mov (.t 7), none, 0, []⟩,
    ⟨(some 27), .bin .sub (.t 26) (.c (.int .i64 1)), none, 1, []⟩,
    ⟨(some 7), .mov (.t 27), none, 2, []⟩]))))
def octet_Put : CFunc := ⟨37,
 (.seq
 (.region 0 ([⟨(some 4), .mov (.c (.slice none 0 0)), none, 0, []⟩,
     ⟨(some 5), .mov (.c (.int .i64 0)), none, 1, []⟩]))
 (.seq
 (.seq
  (.many 0 ([⟨(some 8), .mov (.t 0), none, 0, []⟩] ++
     (⟨(some 9), .callF 88 [(.t 8)], none, 1, []⟩ ::
     ([⟨(some 10), .un .not (.t 9), none, 2, []⟩,
      ⟨(some 11), .mov (.t 10), none, 3, []⟩,
      ⟨(some 12), .mov (.t 1), (some ((some 11), false)), 4, []⟩,
      ⟨(some 13), .bin .lss (.t 12) (.c (.int .i64 0)), (some ((some 11), false)), 5, []⟩,
      ⟨(some 14), .pick (.t 11) (.c (.bool true)) (.t 13), none, 6, []⟩,
      ⟨(some 15), .mov (.t 14), none, 7, []⟩,
      ⟨(some 16), .mov (.t 1), (some ((some 15), false)), 8, []⟩,
      ⟨(some 17), .mov (.t 0), (some ((some 15), false)), 9, []⟩,
      ⟨(some 18), .bin .mul (.c (.int .i64 8)) (.t 17), (some ((some 15), false)), 10, []⟩,
      ⟨(some 19), .bin .shl (.c (.int .i64 1)) (.t 18), (some ((some 15), false)), 11, []⟩,
      ⟨(some 20), .bin .geq (.t 16) (.t 19), (some ((some 15), false)), 12, []⟩,
      ⟨(some 21), .pick (.t 15) (.c (.bool true)) (.t 20), none, 13, []⟩]))))
  (.cond (.t 21)
   (.seq
    (.region 0 ([⟨(some 4), .mov (.c (.slice none 0 0)), none, 0, []⟩,
        ⟨(some 5), .mov (.c (.int .i64 2)), none, 1, []⟩]))
    (.ret))
   (.skip)))
 (.seq
 (.region 0 ([⟨(some 6), .mov (.c (.slice none 0 0)), none, 0, []⟩]))
 (.seq
 (.seq
  (.region 0 ([⟨(some 22), .mov (.t 0), none, 0, []⟩,
      ⟨(some 23), .bin .sub (.t 22) (.c (.int .i64 1)), none, 1, []⟩,
      ⟨(some 7), .mov (.t 23), none, 2, []⟩]))
  (.block 0
   (.loop octet_Put_l0)))
 (.seq
 (.region 0 ([⟨(some 36), .mov (.t 6), none, 0, []⟩,
     ⟨(some 4), .mov (.t 36), none, 1, []⟩,
     ⟨(some 5), .mov (.c (.int .i64 0)), none, 2, []⟩]))
 (.ret)))))),
 [.tmp 4, .tmp 5]⟩
def _tithing_tithingref26_writer_plain : CFunc := ⟨42,
 (.seq
 (.region 0 ([⟨(some 4), .mov (.t 0), none, 0, []⟩,
     ⟨(some 5), .mov (.t 0), none, 1, []⟩,
     ⟨(some 6), .nilCheck (.t 5), none, 2, []⟩,
     ⟨(some 7), .faddr 1 (.t 6), none, 3, []⟩,
     ⟨(some 8), .load1 (.t 7), none, 4, []⟩,
     ⟨(some 9), .mov (.t 8), none, 5, []⟩,
     ⟨(some 10), .mov (.t 1), (some ((some 9), false)), 6, []⟩,
     ⟨(some 11), .bin .lss (.t 10) (.c (.int .i64 0)), (some ((some 9), false)), 7, []⟩,
     ⟨(some 12), .pick (.t 9) (.c (.bool true)) (.t 11), none, 8, []⟩,
     ⟨(some 13), .mov (.t 12), none, 9, []⟩,
     ⟨(some 14), .mov (.t 1), (some ((some 13), false)), 10, []⟩,
     ⟨(some 15), .bin .geq (.t 14) (.c (.int .i64 4294967296)), (some ((some 13), false)), 11, []⟩,
     ⟨(some 16), .pick (.t 13) (.c (.bool true)) (.t 15), none, 12, []⟩,
     ⟨(some 17), .nilCheck (.t 4), none, 13, []⟩,
     ⟨(some 18), .faddr 1 (.t 17), none, 14, []⟩,
     ⟨none, .store 1 (.t 18) (.t 16), none, 15, []⟩]))
 (.region 24 ([⟨(some 19), .mov (.t 0), none, 0, []⟩,
    ⟨(some 20), .mov (.t 0), none, 1, []⟩,
    ⟨(some 21), .nilCheck (.t 20), none, 2, []⟩,
    ⟨(some 22), .faddr 0 (.t 21), none, 3, []⟩,
    ⟨(some 23), .load1 (.t 22), none, 4, []⟩,
    ⟨(some 24), .mov (.t 1), none, 5, []⟩,
    ⟨(some 25), .bin .quo (.t 24) (.c (.int .i64 16777216)), none, 6, []⟩,
    ⟨(some 26), .convI .u8 (.t 25), none, 7, []⟩,
    ⟨(some 27), .mov (.t 1), none, 8, []⟩,
    ⟨(some 28), .bin .quo (.t 27) (.c (.int .i64 65536)), none, 9, []⟩,
    ⟨(some 29), .bin .rem (.t 28) (.c (.int .i64 256)), none, 10, []⟩,
    ⟨(some 30), .convI .u8 (.t 29), none, 11, []⟩,
    ⟨(some 31), .mov (.t 1), none, 12, []⟩,
    ⟨(some 32), .bin .quo (.t 31) (.c (.int .i64 256)), none, 13, []⟩,
    ⟨(some 33), .bin .rem (.t 32) (.c (.int .i64 256)), none, 14, []⟩,
    ⟨(some 34), .convI .u8 (.t 33), none, 15, []⟩,
    ⟨(some 35), .mov (.t 1), none, 16, []⟩,
    ⟨(some 36), .bin .rem (.t 35) (.c (.int .i64 256)), none, 17, []⟩,
    ⟨(some 37), .convI .u8 (.t 36), none, 18, []⟩,
    ⟨(some 38), .buildSlice 5 4 [(.int .u8 0), (.int .u8 0), (.int .u8 0), (.int .u8 0)] [(0, 1, (.t 26)), (1, 1, (.t 30)), (2, 1, (.t 34)), (3, 1, (.t 37))], none, 19, []⟩,
    ⟨(some 39), .append 5 1 1 (.t 23) (.t 38), none, 20, []⟩,
    ⟨(some 40), .nilCheck (.t 19), none, 21, []⟩,
    ⟨(some 41), .faddr 0 (.t 40), none, 22, []⟩,
    ⟨none, .store 1 (.t 41) (.t 39), none, 23, []⟩]))),
 []⟩
def _tithing_client_reader_fixed : CFunc := ⟨18,
 (.seq
 (.region 0 ([⟨(some 4), .mov (.c (.int .i64 0)), none, 0, []⟩]))
 (.seq
 (.many 0 ([⟨(some 9), .mov (.t 0), none, 0, []⟩,
     ⟨(some 10), .mov (.t 1), none, 1, []⟩] ++
    (⟨(some 11), .callF 85 [(.t 9), (.t 10)], none, 2, []⟩ ::
    ([⟨(some 12), .mov (.t 1), none, 3, []⟩] ++
    (⟨(some 13), .callF 89 [(.t 11), (.c (.int .i64 0)), (.t 12)], none, 4, []⟩ ::
    ([⟨(some 8), .mov (.t 13), none, 5, []⟩,
     ⟨(some 14), .extract (.t 8) 0, none, 6, []⟩,
     ⟨(some 15), .extract (.t 8) 1, none, 7, []⟩,
     ⟨(some 16), .extract (.t 8) 2, none, 8, []⟩,
     ⟨(some 5), .mov (.t 14), none, 9, []⟩,
     ⟨(some 6), .mov (.t 15), none, 10, []⟩,
     ⟨(some 7), .mov (.t 16), none, 11, []⟩]))))))
 (.seq
 (.region 0 ([⟨(some 17), .mov (.t 5), none, 0, []⟩,
     ⟨(some 4), .mov (.t 17), none, 1, []⟩]))
 (.ret)))),
 [.tmp 4]⟩
def octet_PutText : CFunc := ⟨13,
 (.seq
 (.region 0 ([⟨(some 2), .mov (.c (.slice none 0 0)), none, 0, []⟩,
     ⟨(some 3), .mov (.c (.int .i64 0)), none, 1, []⟩]))
 (.seq
 (.seq
  (.region 0 ([⟨(some 4), .mov (.t 0), none, 0, []⟩,
      ⟨(some 5), .lenS (.t 4), none, 1, []⟩,
      ⟨(some 6), .bin .gtr (.t 5) (.c (.int .i64 31)), none, 2, []⟩]))
  (.cond (.t 6)
   (.seq
    (.region 0 ([⟨(some 2), .mov (.c (.slice none 0 0)), none, 0, []⟩,
        ⟨(some 3), .mov (.c (.int .i64 2)), none, 1, []⟩]))
    (.ret))
   (.skip)))
 (.seq
 (.region 8 ([⟨(some 7), .mov (.t 0), none, 0, []⟩,
     ⟨(some 8), .lenS (.t 7), none, 1, []⟩,
     ⟨(some 9), .convI .u8 (.t 8), none, 2, []⟩,
     ⟨(some 10), .buildSlice 5 1 [(.int .u8 0)] [(0, 1, (.t 9))], none, 3, []⟩,
     ⟨(some 11), .mov (.t 0), none, 4, []⟩,
     ⟨(some 12), .append 5 1 1 (.t 10) (.t 11), none, 5, []⟩,
     ⟨(some 2), .mov (.t 12), none, 6, []⟩,
     ⟨(some 3), .mov (.c (.int .i64 0)), none, 7, []⟩]))
 (.ret)))),
 [.tmp 2, .tmp 3]⟩
def slices_Grow_byte_byte : CFunc := ⟨27,
 (.seq
 (.region 0 ([⟨(some 4), .mov (.c (.slice none 0 0)), none, 0, []⟩]))
 (.seq
 (.seq
  (.region 0 ([⟨(some 5), .mov (.t 1), none, 0, []⟩,
      ⟨(some 6), .bin .lss (.t 5) (.c (.int .i64 0)), none, 1, []⟩]))
  (.cond (.t 6)
   (.no)
   (.skip)))
 (.seq
 (.seq
  (.region 0 ([⟨(some 8), .mov (.t 1), none, 0, []⟩,
      ⟨(some 9), .mov (.t 0), none, 1, []⟩,
      ⟨(some 10), .capV (.t 9), none, 2, []⟩,
      ⟨(some 11), .mov (.t 0), none, 3, []⟩,
      ⟨(some 12), .lenV (.t 11), none, 4, []⟩,
      ⟨(some 13), .bin .sub (.t 10) (.t 12), none, 5, []⟩,
      ⟨(some 14), .bin .sub (.t 8) (.t 13), none, 6, []⟩,
      ⟨(some 1), .mov (.t 14), none, 7, []⟩]))
  (.seq
  (.region 0 ([⟨(some 15), .mov (.t 1), none, 0, []⟩,
      ⟨(some 16), .bin .gtr (.t 15) (.c (.int .i64 0)), none, 1, []⟩]))
  (.cond (.t 16)
   (.region 0 ([⟨(some 17), .mov (.t 0), none, 0, []⟩,
       ⟨(some 18), .mov (.t 0), none, 1, []⟩,
       ⟨(some 19), .capV (.t 18), none, 2, []⟩,
       ⟨(some 20), .sliceV 1 (.t 17) none (some (.t 19)) none, none, 3, []⟩,
       ⟨(some 21), .mov (.t 1), none, 4, []⟩,
       ⟨(some 22), .appendZ 5 1 1 [(.int .u8 0)] (.t 20) (.t 21), none, 5, []⟩,
       ⟨(some 23), .mov (.t 0), none, 6, []⟩,
       ⟨(some 24), .lenV (.t 23), none, 7, []⟩,
       ⟨(some 25), .sliceV 1 (.t 22) none (some (.t 24)) none, none, 8, []⟩,
       ⟨(some 0), .mov (.t 25), none, 9, []⟩]))
   (.skip))))
 (.seq
 (.region 0 ([⟨(some 26), .mov (.t 0), none, 0, []⟩,
     ⟨(some 4), .mov (.t 26), none, 1, []⟩]))
 (.ret))))),
 [.tmp 4]⟩
def _tithing_client_reader_fail : CFunc := ⟨10,
 (.seq
 (.region 0 ([⟨(some 2), .mov (.t 0), none, 0, []⟩,
     ⟨(some 3), .nilCheck (.t 2), none, 1, []⟩,
     ⟨(some 4), .faddr 2 (.t 3), none, 2, []⟩,
     ⟨(some 5), .load1 (.t 4), none, 3, []⟩,
     ⟨(some 6), .bin .eql (.t 5) (.c (.int .i64 0)), none, 4, []⟩]))
 (.cond (.t 6)
  (.region 0 ([⟨(some 7), .mov (.t 0), none, 0, []⟩,
      ⟨(some 8), .nilCheck (.t 7), none, 1, []⟩,
      ⟨(some 9), .faddr 2 (.t 8), none, 2, []⟩,
      ⟨none, .store 1 (.t 9) (.c (.int .i64 3)), none, 3, []⟩]))
  (.skip))),
 []⟩
def _tithing_client_reader_take : CFunc := ⟨57,
 (.seq
 (.region 0 ([⟨(some 4), .mov (.c (.slice none 0 0)), none, 0, []⟩]))
 (.seq
 (.seq
  (.region 0 ([⟨(some 5), .mov (.t 0), none, 0, []⟩,
      ⟨(some 6), .nilCheck (.t 5), none, 1, []⟩,
      ⟨(some 7), .faddr 2 (.t 6), none, 2, []⟩,
      ⟨(some 8), .load1 (.t 7), none, 3, []⟩,
      ⟨(some 9), .bin .eql (.t 8) (.c (.int .i64 0)), none, 4, []⟩,
      ⟨(some 10), .mov (.t 9), none, 5, []⟩,
      ⟨(some 11), .mov (.t 1), (some ((some 10), true)), 6, []⟩,
      ⟨(some 12), .mov (.t 0), (some ((some 10), true)), 7, []⟩,
      ⟨(some 13), .nilCheck (.t 12), (some ((some 10), true)), 8, []⟩,
      ⟨(some 14), .faddr 0 (.t 13), (some ((some 10), true)), 9, []⟩,
      ⟨(some 15), .load1 (.t 14), (some ((some 10), true)), 10, []⟩,
      ⟨(some 16), .lenV (.t 15), (some ((some 10), true)), 11, []⟩,
      ⟨(some 17), .mov (.t 0), (some ((some 10), true)), 12, []⟩,
      ⟨(some 18), .nilCheck (.t 17), (some ((some 10), true)), 13, []⟩,
      ⟨(some 19), .faddr 1 (.t 18), (some ((some 10), true)), 14, []⟩,
      ⟨(some 20), .load1 (.t 19), (some ((some 10), true)), 15, []⟩,
      ⟨(some 21), .bin .sub (.t 16) (.t 20), (some ((some 10), true)), 16, []⟩,
      ⟨(some 22), .bin .gtr (.t 11) (.t 21), (some ((some 10), true)), 17, []⟩,
      ⟨(some 23), .pick (.t 10) (.t 22) (.c (.bool false)), none, 18, []⟩]))
  (.cond (.t 23)
   (.region 0 ([⟨(some 24), .mov (.t 0), none, 0, []⟩,
       ⟨(some 25), .nilCheck (.t 24), none, 1, []⟩,
       ⟨(some 26), .faddr 2 (.t 25), none, 2, []⟩,
       ⟨none, .store 1 (.t 26) (.c (.int .i64 6)), none, 3, []⟩]))
   (.skip)))
 (.seq
 (.seq
  (.region 0 ([⟨(some 27), .mov (.t 0), none, 0, []⟩,
      ⟨(some 28), .nilCheck (.t 27), none, 1, []⟩,
      ⟨(some 29), .faddr 2 (.t 28), none, 2, []⟩,
      ⟨(some 30), .load1 (.t 29), none, 3, []⟩,
      ⟨(some 31), .bin .neq (.t 30) (.c (.int .i64 0)), none, 4, []⟩]))
  (.cond (.t 31)
   (.seq
    (.region 3 ([⟨(some 32), .mov (.t 1), none, 0, []⟩,
        ⟨(some 33), .mkSlice 5 1 [(.int .u8 0)] (.t 32) (.t 32), none, 1, []⟩,
        ⟨(some 4), .mov (.t 33), none, 2, []⟩]))
    (.ret))
   (.skip)))
 (.seq
 (.region 0 ([⟨(some 34), .mov (.t 0), none, 0, []⟩,
     ⟨(some 35), .nilCheck (.t 34), none, 1, []⟩,
     ⟨(some 36), .faddr 1 (.t 35), none, 2, []⟩,
     ⟨(some 37), .load1 (.t 36), none, 3, []⟩,
     ⟨(some 38), .mov (.t 1), none, 4, []⟩,
     ⟨(some 39), .bin .add (.t 37) (.t 38), none, 5, []⟩,
     ⟨(some 40), .nilCheck (.t 34), none, 6, []⟩,
     ⟨(some 41), .faddr 1 (.t 40), none, 7, []⟩,
     ⟨none, .store 1 (.t 41) (.t 39), none, 8, []⟩]))
 (.seq
 (.region 0 ([⟨(some 42), .mov (.t 0), none, 0, []⟩,
     ⟨(some 43), .nilCheck (.t 42), none, 1, []⟩,
     ⟨(some 44), .faddr 0 (.t 43), none, 2, []⟩,
     ⟨(some 45), .load1 (.t 44), none, 3, []⟩,
     ⟨(some 46), .mov (.t 0), none, 4, []⟩,
     ⟨(some 47), .nilCheck (.t 46), none, 5, []⟩,
     ⟨(some 48), .faddr 1 (.t 47), none, 6, []⟩,
     ⟨(some 49), .load1 (.t 48), none, 7, []⟩,
     ⟨(some 50), .mov (.t 1), none, 8, []⟩,
     ⟨(some 51), .bin .sub (.t 49) (.t 50), none, 9, []⟩,
     ⟨(some 52), .mov (.t 0), none, 10, []⟩,
     ⟨(some 53), .nilCheck (.t 52), none, 11, []⟩,
     ⟨(some 54), .faddr 1 (.t 53), none, 12, []⟩,
     ⟨(some 55), .load1 (.t 54), none, 13, []⟩,
     ⟨(some 56), .sliceV 1 (.t 45) (some (.t 51)) (some (.t 55)) none, none, 14, []⟩,
     ⟨(some 4), .mov (.t 56), none, 15, []⟩]))
 (.ret)))))),
 [.tmp 4]⟩
def octet_isWidth : CFunc := ⟨13,
 (.seq
 (.region 0 ([⟨(some 2), .mov (.c (.bool false)), none, 0, []⟩]))
 (.seq
 (.region 0 ([⟨(some 3), .mov (.t 0), none, 0, []⟩,
     ⟨(some 4), .bin .eql (.t 3) (.c (.int .i64 1)), none, 1, []⟩,
     ⟨(some 5), .mov (.t 4), none, 2, []⟩,
     ⟨(some 6), .mov (.t 0), (some ((some 5), false)), 3, []⟩,
     ⟨(some 7), .bin .eql (.t 6) (.c (.int .i64 2)), (some ((some 5), false)), 4, []⟩,
     ⟨(some 8), .pick (.t 5) (.c (.bool true)) (.t 7), none, 5, []⟩,
     ⟨(some 9), .mov (.t 8), none, 6, []⟩,
     ⟨(some 10), .mov (.t 0), (some ((some 9), false)), 7, []⟩,
     ⟨(some 11), .bin .eql (.t 10) (.c (.int .i64 4)), (some ((some 9), false)), 8, []⟩,
     ⟨(some 12), .pick (.t 9) (.c (.bool true)) (.t 11), none, 9, []⟩,
     ⟨(some 2), .mov (.t 12), none, 10, []⟩]))
 (.ret))),
 [.tmp 2]⟩
def octet_Get_l0 : CCode :=
 (.seq
 (.region 0 ([⟨(some 40), .bin .lss (.t 39) (.t 38), none, 0, []⟩]))
 (.seq
 (.cond (.t 40)
   (.skip)
   (.exit 1))
 (.seq
 (.block 2
   (.seq
    (.region 0 ([⟨(some 41), .iaddrV 1 (.t 37) (.t 39), none, 0, []⟩,
        ⟨(some 42), .load1 (.t 41), none, 1, []⟩,
        ⟨(some 10), .mov (.t 42), none, 2, []⟩]))
    (.region 0 ([⟨(some 43), .mov (.t 6), none, 0, []⟩,
       ⟨(some 44), .bin .shl (.t 43) (.c (.int .u64 8)), none, 1, []⟩,
       ⟨(some 45), .mov (.t 10), none, 2, []⟩,
       ⟨(some 46), .convI .i64 (.t 45), none, 3, []⟩,
       ⟨(some 47), .bin .or (.t 44) (.t 46), none, 4, []⟩,
       ⟨(some 6), .mov (.t 47), none, 5, []⟩]))))
 (.region 0 ([⟨(some 48), .bin .add (.t 39) (.c (.int .i64 1)), none, 0, []⟩,
    ⟨(some 39), .mov (.t 48), none, 1, []⟩])))))
def octet_Get : CFunc := ⟨53,
 (.seq
 (.region 0 ([⟨(some 6), .mov (.c (.int .i64 0)), none, 0, []⟩,
     ⟨(some 7), .mov (.c (.int .i64 0)), none, 1, []⟩,
     ⟨(some 8), .mov (.c (.int .i64 0)), none, 2, []⟩]))
 (.seq
 (.block 0
   (.seq
    (.many 0 ([⟨(some 12), .mov (.t 2), none, 0, []⟩] ++
       (⟨(some 13), .callF 88 [(.t 12)], none, 1, []⟩ ::
       ([⟨(some 14), .un .not (.t 13), none, 2, []⟩,
        ⟨(some 15), .mov (.t 14), none, 3, []⟩,
        ⟨(some 16), .mov (.t 1), (some ((some 15), false)), 4, []⟩,
        ⟨(some 17), .bin .lss (.t 16) (.c (.int .i64 0)), (some ((some 15), false)), 5, []⟩,
        ⟨(some 18), .pick (.t 15) (.c (.bool true)) (.t 17), none, 6, []⟩,
        ⟨(some 19), .mov (.t 18), none, 7, []⟩,
        ⟨(some 20), .mov (.t 1), (some ((some 19), false)), 8, []⟩,
        ⟨(some 21), .mov (.t 0), (some ((some 19), false)), 9, []⟩,
        ⟨(some 22), .lenV (.t 21), (some ((some 19), false)), 10, []⟩,
        ⟨(some 23), .bin .gtr (.t 20) (.t 22), (some ((some 19), false)), 11, []⟩,
        ⟨(some 24), .pick (.t 19) (.c (.bool true)) (.t 23), none, 12, []⟩,
        ⟨(some 11), .mov (.t 24), none, 13, []⟩]))))
    (.cond (.t 11)
     (.seq
      (.region 0 ([⟨(some 6), .mov (.c (.int .i64 0)), none, 0, []⟩,
          ⟨(some 7), .mov (.c (.int .i64 0)), none, 1, []⟩,
          ⟨(some 8), .mov (.c (.int .i64 2)), none, 2, []⟩]))
      (.ret))
     (.seq
      (.region 0 ([⟨(some 26), .mov (.t 0), none, 0, []⟩,
          ⟨(some 27), .lenV (.t 26), none, 1, []⟩,
          ⟨(some 28), .mov (.t 1), none, 2, []⟩,
          ⟨(some 29), .bin .sub (.t 27) (.t 28), none, 3, []⟩,
          ⟨(some 30), .mov (.t 2), none, 4, []⟩,
          ⟨(some 31), .bin .lss (.t 29) (.t 30), none, 5, []⟩,
          ⟨(some 25), .mov (.t 31), none, 6, []⟩]))
      (.cond (.t 25)
       (.seq
        (.region 0 ([⟨(some 6), .mov (.c (.int .i64 0)), none, 0, []⟩,
            ⟨(some 7), .mov (.c (.int .i64 0)), none, 1, []⟩,
            ⟨(some 8), .mov (.c (.int .i64 6)), none, 2, []⟩]))
        (.ret))
       (.skip))))))
 (.seq
 (.seq
  (.region 0 ([⟨(some 32), .mov (.t 0), none, 0, []⟩,
      ⟨(some 33), .mov (.t 1), none, 1, []⟩,
      ⟨(some 34), .mov (.t 1), none, 2, []⟩,
      ⟨(some 35), .mov (.t 2), none, 3, []⟩,
      ⟨(some 36), .bin .add (.t 34) (.t 35), none, 4, []⟩,
      ⟨(some 37), .sliceV 1 (.t 32) (some (.t 33)) (some (.t 36)) none, none, 5, []⟩,
      ⟨(some 38), .lenV (.t 37), none, 6, []⟩,
      ⟨(some 39), .mov (.c (.int .i64 0)), none, 7, []⟩]))
  (.block 1
   (.loop octet_Get_l0)))
 (.seq
 (.region 0 ([⟨(some 49), .mov (.t 6), none, 0, []⟩,
     ⟨(some 50), .mov (.t 1), none, 1, []⟩,
     ⟨(some 51), .mov (.t 2), none, 2, []⟩,
     ⟨(some 52), .bin .add (.t 50) (.t 51), none, 3, []⟩,
     ⟨(some 6), .mov (.t 49), none, 4, []⟩,
     ⟨(some 7), .mov (.t 52), none, 5, []⟩,
     ⟨(some 8), .mov (.c (.int .i64 0)), none, 6, []⟩]))
 (.ret))))),
 [.tmp 6, .tmp 7, .tmp 8]⟩
end Code
structure Codes (E : Env) : Prop where
  tithinglaw26_ClientReplies : Has E 5 Code.tithinglaw26_ClientReplies
  tithinglaw26_longReply : Has E 15 Code.tithinglaw26_longReply
  client_PutReply : Has E 16 Code.client_PutReply
  tithingref26_PutReply : Has E 17 Code.tithingref26_PutReply
  client_isNumber : Has E 29 Code.client_isNumber
  client_counted : Has E 30 Code.client_counted
  client_number : Has E 31 Code.client_number
  slices_Concat_byte_byte : Has E 32 Code.slices_Concat_byte_byte
  client_long : Has E 34 Code.client_long
  _tithing_tithingref26_writer_text : Has E 35 Code._tithing_tithingref26_writer_text
  _tithing_tithingref26_writer_four : Has E 36 Code._tithing_tithingref26_writer_four
  _tithing_tithingref26_writer_two : Has E 39 Code._tithing_tithingref26_writer_two
  _tithing_client_reader_number : Has E 41 Code._tithing_client_reader_number
  _tithing_client_reader_most : Has E 42 Code._tithing_client_reader_most
  octet_Put : Has E 53 Code.octet_Put
  _tithing_tithingref26_writer_plain : Has E 54 Code._tithing_tithingref26_writer_plain
  _tithing_client_reader_fixed : Has E 55 Code._tithing_client_reader_fixed
  octet_PutText : Has E 80 Code.octet_PutText
  slices_Grow_byte_byte : Has E 81 Code.slices_Grow_byte_byte
  _tithing_client_reader_fail : Has E 84 Code._tithing_client_reader_fail
  _tithing_client_reader_take : Has E 85 Code._tithing_client_reader_take
  octet_isWidth : Has E 88 Code.octet_isWidth
  octet_Get : Has E 89 Code.octet_Get
end Go.Ev
