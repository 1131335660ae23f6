/-
  The code of functions as the machine has it, by name; their numbers.
-/
import Derived.Test.YtmpckglmfklfiaaGreatDoorEvPart3
set_option linter.unusedVariables false
namespace Go.Ev
namespace Code
def tithinglaw26_ClientReplyGets : CFunc := ⟨32,
 (.seq
 (.region 0 ([⟨(some 2), .mov (.c (.bool false)), none, 0, []⟩]))
 (.seq
 (.seq
  (.region 0 ([⟨(some 7), .mov (.t 0), none, 0, []⟩,
      ⟨(some 8), .lenV (.t 7), none, 1, []⟩,
      ⟨(some 9), .bin .gtr (.t 8) (.c (.int .i64 2000)), none, 2, []⟩]))
  (.cond (.t 9)
   (.seq
    (.many 0 (⟨(some 10), .callF 9 [], none, 0, []⟩ ::
       ([⟨(some 2), .mov (.t 10), none, 1, []⟩])))
    (.ret))
   (.skip)))
 (.seq
 (.many 8 ([⟨(some 12), .mov (.t 0), none, 0, []⟩] ++
    (⟨(some 13), .callF 18 [(.t 12)], none, 1, []⟩ ::
    ([⟨(some 11), .mov (.t 13), none, 2, []⟩,
     ⟨(some 14), .extract (.t 11) 0, none, 3, []⟩,
     ⟨(some 15), .extract (.t 11) 1, none, 4, []⟩,
     ⟨(some 3), .alloc 40 [(.int .i64 0), (.int .i64 0), (.string ⟨⟨[]⟩⟩), (.slice none 0 0), (.slice none 0 0)], none, 5, []⟩,
     ⟨none, .store 5 (.t 3) (.t 14), none, 6, []⟩,
     ⟨(some 4), .mov (.t 15), none, 7, []⟩]))))
 (.seq
 (.many 8 ([⟨(some 17), .mov (.t 0), none, 0, []⟩] ++
    (⟨(some 18), .callF 19 [(.t 17)], none, 1, []⟩ ::
    ([⟨(some 16), .mov (.t 18), none, 2, []⟩,
     ⟨(some 19), .extract (.t 16) 0, none, 3, []⟩,
     ⟨(some 20), .extract (.t 16) 1, none, 4, []⟩,
     ⟨(some 5), .alloc 40 [(.int .i64 0), (.int .i64 0), (.string ⟨⟨[]⟩⟩), (.slice none 0 0), (.slice none 0 0)], none, 5, []⟩,
     ⟨none, .store 5 (.t 5) (.t 19), none, 6, []⟩,
     ⟨(some 6), .mov (.t 20), none, 7, []⟩]))))
 (.seq
 (.many 0 ([⟨(some 21), .loadN 5 (.t 3), none, 0, []⟩,
     ⟨(some 22), .loadN 5 (.t 5), none, 1, []⟩] ++
    (⟨(some 23), .callF 20 [(.t 21), (.t 22)], none, 2, []⟩ ::
    ([⟨(some 24), .mov (.t 23), none, 3, []⟩,
     ⟨(some 25), .mov (.t 4), (some ((some 24), true)), 4, []⟩,
     ⟨(some 26), .mov (.t 6), (some ((some 24), true)), 5, []⟩,
     ⟨(some 27), .bin .eql (.t 25) (.t 26), (some ((some 24), true)), 6, []⟩,
     ⟨(some 28), .pick (.t 24) (.t 27) (.c (.bool false)), none, 7, []⟩,
     ⟨(some 29), .mov (.t 28), none, 8, []⟩] ++
    (⟨(some 30), .callF 9 [], (some ((some 29), true)), 9, []⟩ ::
    ([⟨(some 31), .pick (.t 29) (.t 30) (.c (.bool false)), none, 10, []⟩,
     ⟨(some 2), .mov (.t 31), none, 11, []⟩]))))))
 (.ret)))))),
 [.tmp 2]⟩
def client_GetReply_l0 : CCode :=
 (.seq
 (.seq
  (.region 0 ([⟨(some 28), .mov (.t 7), none, 0, []⟩,
      ⟨(some 29), .mov (.t 6), none, 1, []⟩,
      ⟨(some 30), .bin .lss (.t 28) (.t 29), none, 2, []⟩,
      ⟨(some 31), .mov (.t 30), none, 3, []⟩,
      ⟨(some 32), .mov (.t 4), (some ((some 31), true)), 4, []⟩,
      ⟨(some 33), .nilCheck (.t 32), (some ((some 31), true)), 5, []⟩,
      ⟨(some 34), .faddr 2 (.t 33), (some ((some 31), true)), 6, []⟩,
      ⟨(some 35), .load1 (.t 34), (some ((some 31), true)), 7, []⟩,
      ⟨(some 36), .bin .eql (.t 35) (.c (.int .i64 0)), (some ((some 31), true)), 8, []⟩,
      ⟨(some 37), .pick (.t 31) (.t 36) (.c (.bool false)), none, 9, []⟩]))
  (.cond (.t 37)
   (.skip)
   (.exit 0)))
 (.seq
 (.block 1
   (.seq
    (.many 5 ([⟨(some 40), .mov (.t 4), none, 0, []⟩] ++
       (⟨(some 41), .callF 55 [(.t 40), (.c (.int .i64 4))], none, 1, []⟩ ::
       ([⟨(some 42), .build [(.int .i64 0), (.int .i64 0), (.string ⟨⟨[]⟩⟩), (.bool false)] [(0, 1, (.t 41))], none, 2, []⟩,
        ⟨(some 8), .alloc 85 [(.int .i64 0), (.int .i64 0), (.string ⟨⟨[]⟩⟩), (.bool false)], none, 3, []⟩,
        ⟨none, .store 4 (.t 8) (.t 42), none, 4, []⟩]))))
    (.seq
    (.many 0 ([⟨(some 43), .mov (.t 4), none, 0, []⟩] ++
       (⟨(some 44), .callF 55 [(.t 43), (.c (.int .i64 4))], none, 1, []⟩ ::
       ([⟨(some 45), .faddr 1 (.t 8), none, 2, []⟩,
        ⟨none, .store 1 (.t 45) (.t 44), none, 3, []⟩]))))
    (.seq
    (.many 0 ([⟨(some 46), .mov (.t 4), none, 0, []⟩] ++
       (⟨(some 47), .callF 42 [(.t 46), (.c (.int .i64 1))], none, 1, []⟩ ::
       ([⟨(some 48), .bin .eql (.t 47) (.c (.int .i64 1)), none, 2, []⟩,
        ⟨(some 49), .faddr 3 (.t 8), none, 3, []⟩,
        ⟨none, .store 1 (.t 49) (.t 48), none, 4, []⟩]))))
    (.seq
    (.many 0 ([⟨(some 50), .mov (.t 4), none, 0, []⟩] ++
       (⟨(some 51), .callF 40 [(.t 50)], none, 1, []⟩ ::
       ([⟨(some 52), .faddr 2 (.t 8), none, 2, []⟩,
        ⟨none, .store 1 (.t 52) (.t 51), none, 3, []⟩]))))
    (.region 7 ([⟨(some 53), .faddr 4 (.t 5), none, 0, []⟩,
       ⟨(some 54), .load1 (.t 53), none, 1, []⟩,
       ⟨(some 55), .loadN 4 (.t 8), none, 2, []⟩,
       ⟨(some 56), .buildSlice 85 1 [(.int .i64 0), (.int .i64 0), (.string ⟨⟨[]⟩⟩), (.bool false)] [(0, 4, (.t 55))], none, 3, []⟩,
       ⟨(some 57), .append 85 4 40 (.t 54) (.t 56), none, 4, []⟩,
       ⟨(some 58), .faddr 4 (.t 5), none, 5, []⟩,
       ⟨none, .store 1 (.t 58) (.t 57), none, 6, []⟩])))))))
 (.region 0 ([⟨(some 38), .mov (.t 7), none, 0, []⟩,
    ⟨(some 39), .bin .add (.t 38) (.c (.int .i64 1)), none, 1, []⟩,
    ⟨(some 7), .mov (.t 39), none, 2, []⟩]))))
def client_GetReply : CFunc := ⟨66,
 (.seq
 (.region 2 ([⟨(some 2), .alloc 40 [(.int .i64 0), (.int .i64 0), (.string ⟨⟨[]⟩⟩), (.slice none 0 0), (.slice none 0 0)], none, 0, []⟩,
     ⟨(some 3), .mov (.c (.int .i64 0)), none, 1, []⟩]))
 (.seq
 (.region 4 ([⟨(some 10), .mov (.t 0), none, 0, []⟩,
     ⟨(some 11), .build [(.slice none 0 0), (.int .i64 0), (.int .i64 0)] [(0, 1, (.t 10))], none, 1, []⟩,
     ⟨(some 12), .box 75 (.t 11), none, 2, []⟩,
     ⟨(some 4), .mov (.t 12), none, 3, []⟩]))
 (.seq
 (.many 5 ([⟨(some 13), .mov (.t 4), none, 0, []⟩] ++
    (⟨(some 14), .callF 55 [(.t 13), (.c (.int .i64 2))], none, 1, []⟩ ::
    ([⟨(some 15), .build [(.int .i64 0), (.int .i64 0), (.string ⟨⟨[]⟩⟩), (.slice none 0 0), (.slice none 0 0)] [(0, 1, (.t 14))], none, 2, []⟩,
     ⟨(some 5), .alloc 40 [(.int .i64 0), (.int .i64 0), (.string ⟨⟨[]⟩⟩), (.slice none 0 0), (.slice none 0 0)], none, 3, []⟩,
     ⟨none, .store 5 (.t 5) (.t 15), none, 4, []⟩]))))
 (.seq
 (.many 0 ([⟨(some 16), .mov (.t 4), none, 0, []⟩] ++
    (⟨(some 17), .callF 41 [(.t 16)], none, 1, []⟩ ::
    ([⟨(some 18), .faddr 1 (.t 5), none, 2, []⟩,
     ⟨none, .store 1 (.t 18) (.t 17), none, 3, []⟩]))))
 (.seq
 (.many 0 ([⟨(some 19), .mov (.t 4), none, 0, []⟩] ++
    (⟨(some 20), .callF 44 [(.t 19), (.c (.int .i64 65535))], none, 1, []⟩ ::
    ([⟨(some 21), .convBS (.t 20), none, 2, []⟩,
     ⟨(some 22), .faddr 2 (.t 5), none, 3, []⟩,
     ⟨none, .store 1 (.t 22) (.t 21), none, 4, []⟩]))))
 (.seq
 (.many 0 ([⟨(some 23), .mov (.t 4), none, 0, []⟩] ++
    (⟨(some 24), .callF 44 [(.t 23), (.c (.int .i64 300))], none, 1, []⟩ ::
    ([⟨(some 25), .faddr 3 (.t 5), none, 2, []⟩,
     ⟨none, .store 1 (.t 25) (.t 24), none, 3, []⟩]))))
 (.seq
 (.many 0 ([⟨(some 26), .mov (.t 4), none, 0, []⟩] ++
    (⟨(some 27), .callF 42 [(.t 26), (.c (.int .i64 20))], none, 1, []⟩ ::
    ([⟨(some 6), .mov (.t 27), none, 2, []⟩]))))
 (.seq
 (.seq
  (.region 0 ([⟨(some 7), .mov (.c (.int .i64 0)), none, 0, []⟩]))
  (.block 0
   (.loop client_GetReply_l0)))
 (.seq
 (.seq
  (.many 0 ([⟨(some 59), .mov (.t 4), none, 0, []⟩] ++
     (⟨(some 60), .callF 45 [(.t 59)], none, 1, []⟩ ::
     ([⟨(some 9), .mov (.t 60), none, 2, []⟩]))))
  (.seq
  (.region 0 ([⟨(some 61), .mov (.t 9), none, 0, []⟩,
      ⟨(some 62), .bin .neq (.t 61) (.c (.int .i64 0)), none, 1, []⟩]))
  (.cond (.t 62)
   (.seq
    (.region 0 ([⟨(some 63), .build [(.int .i64 0), (.int .i64 0), (.string ⟨⟨[]⟩⟩), (.slice none 0 0), (.slice none 0 0)] [], none, 0, []⟩,
        ⟨(some 64), .mov (.t 9), none, 1, []⟩,
        ⟨none, .store 5 (.t 2) (.t 63), none, 2, []⟩,
        ⟨(some 3), .mov (.t 64), none, 3, []⟩]))
    (.ret))
   (.skip))))
 (.seq
 (.region 0 ([⟨(some 65), .loadN 5 (.t 5), none, 0, []⟩,
     ⟨none, .store 5 (.t 2) (.t 65), none, 1, []⟩,
     ⟨(some 3), .mov (.c (.int .i64 0)), none, 2, []⟩]))
 (.ret))))))))))),
 [.cell 2 true 5, .tmp 3]⟩
def tithingref26_GetReply_l0 : CCode :=
 (.seq
 (.seq
  (.region 0 ([⟨(some 33), .mov (.t 7), none, 0, []⟩,
      ⟨(some 34), .mov (.t 6), none, 1, []⟩,
      ⟨(some 35), .bin .lss (.t 33) (.t 34), none, 2, []⟩,
      ⟨(some 36), .mov (.t 35), none, 3, []⟩,
      ⟨(some 37), .mov (.t 4), (some ((some 36), true)), 4, []⟩,
      ⟨(some 38), .nilCheck (.t 37), (some ((some 36), true)), 5, []⟩,
      ⟨(some 39), .faddr 2 (.t 38), (some ((some 36), true)), 6, []⟩,
      ⟨(some 40), .load1 (.t 39), (some ((some 36), true)), 7, []⟩,
      ⟨(some 41), .bin .eql (.t 40) (.c (.int .i64 0)), (some ((some 36), true)), 8, []⟩,
      ⟨(some 42), .pick (.t 36) (.t 41) (.c (.bool false)), none, 9, []⟩]))
  (.cond (.t 42)
   (.skip)
   (.exit 0)))
 (.seq
 (.block 1
   (.seq
    (.region 1 ([⟨(some 8), .alloc 85 [(.int .i64 0), (.int .i64 0), (.string ⟨⟨[]⟩⟩), (.bool false)], none, 0, []⟩]))
    (.seq
    (.many 0 ([⟨(some 45), .mov (.t 4), none, 0, []⟩] ++
       (⟨(some 46), .callF 48 [(.t 45), (.c (.int .i64 4))], none, 1, []⟩ ::
       ([⟨(some 47), .faddr 0 (.t 8), none, 2, []⟩,
        ⟨none, .store 1 (.t 47) (.t 46), none, 3, []⟩]))))
    (.seq
    (.many 0 ([⟨(some 48), .mov (.t 4), none, 0, []⟩] ++
       (⟨(some 49), .callF 48 [(.t 48), (.c (.int .i64 4))], none, 1, []⟩ ::
       ([⟨(some 50), .faddr 1 (.t 8), none, 2, []⟩,
        ⟨none, .store 1 (.t 50) (.t 49), none, 3, []⟩]))))
    (.seq
    (.many 0 ([⟨(some 51), .mov (.t 4), none, 0, []⟩] ++
       (⟨(some 52), .callF 48 [(.t 51), (.c (.int .i64 1))], none, 1, []⟩ ::
       ([⟨(some 9), .mov (.t 52), none, 2, []⟩]))))
    (.seq
    (.many 0 ([⟨(some 53), .mov (.t 4), none, 0, []⟩,
        ⟨(some 54), .mov (.t 9), none, 1, []⟩,
        ⟨(some 55), .bin .lss (.t 54) (.c (.int .i64 2)), none, 2, []⟩] ++
       (⟨(some 56), .callF 49 [(.t 53), (.t 55), (.c (.int .i64 3))], none, 3, []⟩ ::
       ([]))))
    (.seq
    (.region 0 ([⟨(some 57), .mov (.t 9), none, 0, []⟩,
        ⟨(some 58), .bin .eql (.t 57) (.c (.int .i64 1)), none, 1, []⟩,
        ⟨(some 59), .faddr 3 (.t 8), none, 2, []⟩,
        ⟨none, .store 1 (.t 59) (.t 58), none, 3, []⟩]))
    (.seq
    (.many 0 ([⟨(some 60), .mov (.t 4), none, 0, []⟩] ++
       (⟨(some 61), .callF 46 [(.t 60)], none, 1, []⟩ ::
       ([⟨(some 62), .faddr 2 (.t 8), none, 2, []⟩,
        ⟨none, .store 1 (.t 62) (.t 61), none, 3, []⟩]))))
    (.region 7 ([⟨(some 63), .faddr 4 (.t 5), none, 0, []⟩,
       ⟨(some 64), .load1 (.t 63), none, 1, []⟩,
       ⟨(some 65), .loadN 4 (.t 8), none, 2, []⟩,
       ⟨(some 66), .buildSlice 85 1 [(.int .i64 0), (.int .i64 0), (.string ⟨⟨[]⟩⟩), (.bool false)] [(0, 4, (.t 65))], none, 3, []⟩,
       ⟨(some 67), .append 85 4 40 (.t 64) (.t 66), none, 4, []⟩,
       ⟨(some 68), .faddr 4 (.t 5), none, 5, []⟩,
       ⟨none, .store 1 (.t 68) (.t 67), none, 6, []⟩]))))))))))
 (.region 0 ([⟨(some 43), .mov (.t 7), none, 0, []⟩,
    ⟨(some 44), .bin .add (.t 43) (.c (.int .i64 1)), none, 1, []⟩,
    ⟨(some 7), .mov (.t 44), none, 2, []⟩]))))
def tithingref26_GetReply : CFunc := ⟨76,
 (.seq
 (.region 2 ([⟨(some 2), .alloc 40 [(.int .i64 0), (.int .i64 0), (.string ⟨⟨[]⟩⟩), (.slice none 0 0), (.slice none 0 0)], none, 0, []⟩,
     ⟨(some 3), .mov (.c (.int .i64 0)), none, 1, []⟩]))
 (.seq
 (.region 4 ([⟨(some 11), .mov (.t 0), none, 0, []⟩,
     ⟨(some 12), .build [(.slice none 0 0), (.int .i64 0), (.int .i64 0)] [(0, 1, (.t 11))], none, 1, []⟩,
     ⟨(some 13), .box 82 (.t 12), none, 2, []⟩,
     ⟨(some 4), .mov (.t 13), none, 3, []⟩]))
 (.seq
 (.region 1 ([⟨(some 5), .alloc 40 [(.int .i64 0), (.int .i64 0), (.string ⟨⟨[]⟩⟩), (.slice none 0 0), (.slice none 0 0)], none, 0, []⟩]))
 (.seq
 (.many 0 ([⟨(some 14), .mov (.t 4), none, 0, []⟩] ++
    (⟨(some 15), .callF 48 [(.t 14), (.c (.int .i64 2))], none, 1, []⟩ ::
    ([⟨(some 16), .faddr 0 (.t 5), none, 2, []⟩,
     ⟨none, .store 1 (.t 16) (.t 15), none, 3, []⟩]))))
 (.seq
 (.many 0 ([⟨(some 17), .mov (.t 4), none, 0, []⟩] ++
    (⟨(some 18), .callF 47 [(.t 17)], none, 1, []⟩ ::
    ([⟨(some 19), .faddr 1 (.t 5), none, 2, []⟩,
     ⟨none, .store 1 (.t 19) (.t 18), none, 3, []⟩]))))
 (.seq
 (.many 0 ([⟨(some 20), .mov (.t 4), none, 0, []⟩] ++
    (⟨(some 21), .callF 51 [(.t 20), (.c (.int .i64 65535))], none, 1, []⟩ ::
    ([⟨(some 22), .convBS (.t 21), none, 2, []⟩,
     ⟨(some 23), .faddr 2 (.t 5), none, 3, []⟩,
     ⟨none, .store 1 (.t 23) (.t 22), none, 4, []⟩]))))
 (.seq
 (.many 0 ([⟨(some 24), .mov (.t 4), none, 0, []⟩] ++
    (⟨(some 25), .callF 51 [(.t 24), (.c (.int .i64 300))], none, 1, []⟩ ::
    ([⟨(some 26), .faddr 3 (.t 5), none, 2, []⟩,
     ⟨none, .store 1 (.t 26) (.t 25), none, 3, []⟩]))))
 (.seq
 (.many 0 ([⟨(some 27), .mov (.t 4), none, 0, []⟩] ++
    (⟨(some 28), .callF 48 [(.t 27), (.c (.int .i64 1))], none, 1, []⟩ ::
    ([⟨(some 6), .mov (.t 28), none, 2, []⟩]))))
 (.seq
 (.many 0 ([⟨(some 29), .mov (.t 4), none, 0, []⟩,
     ⟨(some 30), .mov (.t 6), none, 1, []⟩,
     ⟨(some 31), .bin .leq (.t 30) (.c (.int .i64 20)), none, 2, []⟩] ++
    (⟨(some 32), .callF 49 [(.t 29), (.t 31), (.c (.int .i64 3))], none, 3, []⟩ ::
    ([]))))
 (.seq
 (.seq
  (.region 0 ([⟨(some 7), .mov (.c (.int .i64 0)), none, 0, []⟩]))
  (.block 0
   (.loop tithingref26_GetReply_l0)))
 (.seq
 (.seq
  (.many 0 ([⟨(some 69), .mov (.t 4), none, 0, []⟩] ++
     (⟨(some 70), .callF 52 [(.t 69)], none, 1, []⟩ ::
     ([⟨(some 10), .mov (.t 70), none, 2, []⟩]))))
  (.seq
  (.region 0 ([⟨(some 71), .mov (.t 10), none, 0, []⟩,
      ⟨(some 72), .bin .neq (.t 71) (.c (.int .i64 0)), none, 1, []⟩]))
  (.cond (.t 72)
   (.seq
    (.region 0 ([⟨(some 73), .build [(.int .i64 0), (.int .i64 0), (.string ⟨⟨[]⟩⟩), (.slice none 0 0), (.slice none 0 0)] [], none, 0, []⟩,
        ⟨(some 74), .mov (.t 10), none, 1, []⟩,
        ⟨none, .store 5 (.t 2) (.t 73), none, 2, []⟩,
        ⟨(some 3), .mov (.t 74), none, 3, []⟩]))
    (.ret))
   (.skip))))
 (.seq
 (.region 0 ([⟨(some 75), .loadN 5 (.t 5), none, 0, []⟩,
     ⟨none, .store 5 (.t 2) (.t 75), none, 1, []⟩,
     ⟨(some 3), .mov (.c (.int .i64 0)), none, 2, []⟩]))
 (.ret))))))))))))),
 [.cell 2 true 5, .tmp 3]⟩
def tithingref25_Same : CFunc := ⟨40,
 (.seq
 (.region 3 ([⟨(some 2), .box 40 (.t 0), none, 0, []⟩,
     ⟨(some 3), .box 40 (.t 1), none, 1, []⟩,
     ⟨(some 4), .mov (.c (.bool false)), none, 2, []⟩]))
 (.seq
 (.many 0 ([⟨(some 5), .faddr 0 (.t 2), none, 0, []⟩,
     ⟨(some 6), .load1 (.t 5), none, 1, []⟩,
     ⟨(some 7), .faddr 0 (.t 3), none, 2, []⟩,
     ⟨(some 8), .load1 (.t 7), none, 3, []⟩,
     ⟨(some 9), .bin .eql (.t 6) (.t 8), none, 4, []⟩,
     ⟨(some 10), .mov (.t 9), none, 5, []⟩,
     ⟨(some 11), .faddr 1 (.t 2), (some ((some 10), true)), 6, []⟩,
     ⟨(some 12), .load1 (.t 11), (some ((some 10), true)), 7, []⟩,
     ⟨(some 13), .faddr 1 (.t 3), (some ((some 10), true)), 8, []⟩,
     ⟨(some 14), .load1 (.t 13), (some ((some 10), true)), 9, []⟩,
     ⟨(some 15), .bin .eql (.t 12) (.t 14), (some ((some 10), true)), 10, []⟩,
     ⟨(some 16), .pick (.t 10) (.t 15) (.c (.bool false)), none, 11, []⟩,
     ⟨(some 17), .mov (.t 16), none, 12, []⟩,
     ⟨(some 18), .faddr 2 (.t 2), (some ((some 17), true)), 13, []⟩,
     ⟨(some 19), .load1 (.t 18), (some ((some 17), true)), 14, []⟩,
     ⟨(some 20), .faddr 2 (.t 3), (some ((some 17), true)), 15, []⟩,
     ⟨(some 21), .load1 (.t 20), (some ((some 17), true)), 16, []⟩,
     ⟨(some 22), .bin .eql (.t 19) (.t 21), (some ((some 17), true)), 17, []⟩,
     ⟨(some 23), .pick (.t 17) (.t 22) (.c (.bool false)), none, 18, []⟩,
     ⟨(some 24), .mov (.t 23), none, 19, []⟩,
     ⟨(some 25), .faddr 3 (.t 2), (some ((some 24), true)), 20, []⟩,
     ⟨(some 26), .load1 (.t 25), (some ((some 24), true)), 21, []⟩,
     ⟨(some 27), .convBS (.t 26), (some ((some 24), true)), 22, []⟩,
     ⟨(some 28), .faddr 3 (.t 3), (some ((some 24), true)), 23, []⟩,
     ⟨(some 29), .load1 (.t 28), (some ((some 24), true)), 24, []⟩,
     ⟨(some 30), .convBS (.t 29), (some ((some 24), true)), 25, []⟩,
     ⟨(some 31), .bin .eql (.t 27) (.t 30), (some ((some 24), true)), 26, []⟩,
     ⟨(some 32), .pick (.t 24) (.t 31) (.c (.bool false)), none, 27, []⟩,
     ⟨(some 33), .mov (.t 32), none, 28, []⟩,
     ⟨(some 34), .faddr 4 (.t 2), (some ((some 33), true)), 29, []⟩,
     ⟨(some 35), .load1 (.t 34), (some ((some 33), true)), 30, []⟩,
     ⟨(some 36), .faddr 4 (.t 3), (some ((some 33), true)), 31, []⟩,
     ⟨(some 37), .load1 (.t 36), (some ((some 33), true)), 32, []⟩] ++
    (⟨(some 38), .callF 56 [(.t 35), (.t 37)], (some ((some 33), true)), 33, []⟩ ::
    ([⟨(some 39), .pick (.t 33) (.t 38) (.c (.bool false)), none, 34, []⟩,
     ⟨(some 4), .mov (.t 39), none, 35, []⟩]))))
 (.ret))),
 [.tmp 4]⟩
def _tithing_client_reader_text : CFunc := ⟨14,
 (.seq
 (.region 0 ([⟨(some 2), .mov (.c (.string ⟨⟨[]⟩⟩)), none, 0, []⟩]))
 (.seq
 (.many 0 ([⟨(some 4), .mov (.t 0), none, 0, []⟩] ++
    (⟨(some 5), .callF 55 [(.t 4), (.c (.int .i64 1))], none, 1, []⟩ ::
    ([⟨(some 3), .mov (.t 5), none, 2, []⟩]))))
 (.seq
 (.seq
  (.region 0 ([⟨(some 6), .mov (.t 3), none, 0, []⟩,
      ⟨(some 7), .bin .gtr (.t 6) (.c (.int .i64 31)), none, 1, []⟩]))
  (.cond (.t 7)
   (.seq
    (.many 0 ([⟨(some 8), .mov (.t 0), none, 0, []⟩] ++
       (⟨(some 9), .callF 84 [(.t 8)], none, 1, []⟩ ::
       ([]))))
    (.seq
    (.region 0 ([⟨(some 2), .mov (.c (.string ⟨⟨[]⟩⟩)), none, 0, []⟩]))
    (.ret)))
   (.skip)))
 (.seq
 (.many 0 ([⟨(some 10), .mov (.t 0), none, 0, []⟩,
     ⟨(some 11), .mov (.t 3), none, 1, []⟩] ++
    (⟨(some 12), .callF 85 [(.t 10), (.t 11)], none, 2, []⟩ ::
    ([⟨(some 13), .convBS (.t 12), none, 3, []⟩,
     ⟨(some 2), .mov (.t 13), none, 4, []⟩]))))
 (.ret))))),
 [.tmp 2]⟩
def _tithing_client_reader_number : CFunc := ⟨6,
 (.seq
 (.region 0 ([⟨(some 2), .mov (.c (.int .i64 0)), none, 0, []⟩]))
 (.seq
 (.many 0 ([⟨(some 3), .mov (.t 0), none, 0, []⟩] ++
    (⟨(some 4), .callF 55 [(.t 3), (.c (.int .i64 4))], none, 1, []⟩ ::
    ([⟨(some 5), .bin .sub (.t 4) (.c (.int .i64 2147483648)), none, 2, []⟩,
     ⟨(some 2), .mov (.t 5), none, 3, []⟩]))))
 (.ret))),
 [.tmp 2]⟩
def _tithing_client_reader_most : CFunc := ⟨14,
 (.seq
 (.region 0 ([⟨(some 4), .mov (.c (.int .i64 0)), none, 0, []⟩]))
 (.seq
 (.many 0 ([⟨(some 6), .mov (.t 0), none, 0, []⟩] ++
    (⟨(some 7), .callF 55 [(.t 6), (.c (.int .i64 1))], none, 1, []⟩ ::
    ([⟨(some 5), .mov (.t 7), none, 2, []⟩]))))
 (.seq
 (.seq
  (.region 0 ([⟨(some 8), .mov (.t 5), none, 0, []⟩,
      ⟨(some 9), .mov (.t 1), none, 1, []⟩,
      ⟨(some 10), .bin .gtr (.t 8) (.t 9), none, 2, []⟩]))
  (.cond (.t 10)
   (.many 0 ([⟨(some 11), .mov (.t 0), none, 0, []⟩] ++
      (⟨(some 12), .callF 84 [(.t 11)], none, 1, []⟩ ::
      ([]))))
   (.skip)))
 (.seq
 (.region 0 ([⟨(some 13), .mov (.t 5), none, 0, []⟩,
     ⟨(some 4), .mov (.t 13), none, 1, []⟩]))
 (.ret))))),
 [.tmp 4]⟩
def _tithing_client_reader_long : CFunc := ⟨17,
 (.seq
 (.region 0 ([⟨(some 4), .mov (.c (.slice none 0 0)), none, 0, []⟩]))
 (.seq
 (.many 0 ([⟨(some 6), .mov (.t 0), none, 0, []⟩] ++
    (⟨(some 7), .callF 55 [(.t 6), (.c (.int .i64 2))], none, 1, []⟩ ::
    ([⟨(some 5), .mov (.t 7), none, 2, []⟩]))))
 (.seq
 (.seq
  (.region 0 ([⟨(some 8), .mov (.t 5), none, 0, []⟩,
      ⟨(some 9), .mov (.t 1), none, 1, []⟩,
      ⟨(some 10), .bin .gtr (.t 8) (.t 9), none, 2, []⟩]))
  (.cond (.t 10)
   (.seq
    (.many 0 ([⟨(some 11), .mov (.t 0), none, 0, []⟩] ++
       (⟨(some 12), .callF 84 [(.t 11)], none, 1, []⟩ ::
       ([]))))
    (.seq
    (.region 0 ([⟨(some 4), .mov (.c (.slice none 0 0)), none, 0, []⟩]))
    (.ret)))
   (.skip)))
 (.seq
 (.many 0 ([⟨(some 13), .mov (.t 0), none, 0, []⟩,
     ⟨(some 14), .mov (.t 5), none, 1, []⟩] ++
    (⟨(some 15), .callF 85 [(.t 13), (.t 14)], none, 2, []⟩ ::
    (⟨(some 16), .callF 76 [(.t 15)], none, 3, []⟩ ::
    ([⟨(some 4), .mov (.t 16), none, 4, []⟩])))))
 (.ret))))),
 [.tmp 4]⟩
def _tithing_client_reader_end : CFunc := ⟨19,
 (.seq
 (.region 0 ([⟨(some 2), .mov (.c (.int .i64 0)), none, 0, []⟩]))
 (.seq
 (.seq
  (.region 0 ([⟨(some 3), .mov (.t 0), none, 0, []⟩,
      ⟨(some 4), .nilCheck (.t 3), none, 1, []⟩,
      ⟨(some 5), .faddr 1 (.t 4), none, 2, []⟩,
      ⟨(some 6), .load1 (.t 5), none, 3, []⟩,
      ⟨(some 7), .mov (.t 0), none, 4, []⟩,
      ⟨(some 8), .nilCheck (.t 7), none, 5, []⟩,
      ⟨(some 9), .faddr 0 (.t 8), none, 6, []⟩,
      ⟨(some 10), .load1 (.t 9), none, 7, []⟩,
      ⟨(some 11), .lenV (.t 10), none, 8, []⟩,
      ⟨(some 12), .bin .neq (.t 6) (.t 11), none, 9, []⟩]))
  (.cond (.t 12)
   (.many 0 ([⟨(some 13), .mov (.t 0), none, 0, []⟩] ++
      (⟨(some 14), .callF 84 [(.t 13)], none, 1, []⟩ ::
      ([]))))
   (.skip)))
 (.seq
 (.region 0 ([⟨(some 15), .mov (.t 0), none, 0, []⟩,
     ⟨(some 16), .nilCheck (.t 15), none, 1, []⟩,
     ⟨(some 17), .faddr 2 (.t 16), none, 2, []⟩,
     ⟨(some 18), .load1 (.t 17), none, 3, []⟩,
     ⟨(some 2), .mov (.t 18), none, 4, []⟩]))
 (.ret)))),
 [.tmp 2]⟩
def _tithing_tithingref26_reader_text : CFunc := ⟨19,
 (.seq
 (.region 0 ([⟨(some 2), .mov (.c (.string ⟨⟨[]⟩⟩)), none, 0, []⟩]))
 (.seq
 (.many 0 ([⟨(some 4), .mov (.t 0), none, 0, []⟩] ++
    (⟨(some 5), .callF 48 [(.t 4), (.c (.int .i64 1))], none, 1, []⟩ ::
    ([⟨(some 3), .mov (.t 5), none, 2, []⟩]))))
 (.seq
 (.many 0 ([⟨(some 6), .mov (.t 0), none, 0, []⟩,
     ⟨(some 7), .mov (.t 3), none, 1, []⟩,
     ⟨(some 8), .bin .leq (.t 7) (.c (.int .i64 31)), none, 2, []⟩] ++
    (⟨(some 9), .callF 49 [(.t 6), (.t 8), (.c (.int .i64 3))], none, 3, []⟩ ::
    ([]))))
 (.seq
 (.seq
  (.region 0 ([⟨(some 10), .mov (.t 0), none, 0, []⟩,
      ⟨(some 11), .nilCheck (.t 10), none, 1, []⟩,
      ⟨(some 12), .faddr 2 (.t 11), none, 2, []⟩,
      ⟨(some 13), .load1 (.t 12), none, 3, []⟩,
      ⟨(some 14), .bin .neq (.t 13) (.c (.int .i64 0)), none, 4, []⟩]))
  (.cond (.t 14)
   (.seq
    (.region 0 ([⟨(some 2), .mov (.c (.string ⟨⟨[]⟩⟩)), none, 0, []⟩]))
    (.ret))
   (.skip)))
 (.seq
 (.many 0 ([⟨(some 15), .mov (.t 0), none, 0, []⟩,
     ⟨(some 16), .mov (.t 3), none, 1, []⟩] ++
    (⟨(some 17), .callF 86 [(.t 15), (.t 16)], none, 2, []⟩ ::
    ([⟨(some 18), .convBS (.t 17), none, 3, []⟩,
     ⟨(some 2), .mov (.t 18), none, 4, []⟩]))))
 (.ret)))))),
 [.tmp 2]⟩
def _tithing_tithingref26_reader_four : CFunc := ⟨6,
 (.seq
 (.region 0 ([⟨(some 2), .mov (.c (.int .i64 0)), none, 0, []⟩]))
 (.seq
 (.many 0 ([⟨(some 3), .mov (.t 0), none, 0, []⟩] ++
    (⟨(some 4), .callF 48 [(.t 3), (.c (.int .i64 4))], none, 1, []⟩ ::
    ([⟨(some 5), .bin .sub (.t 4) (.c (.int .i64 2147483648)), none, 2, []⟩,
     ⟨(some 2), .mov (.t 5), none, 3, []⟩]))))
 (.ret))),
 [.tmp 2]⟩
def _tithing_tithingref26_reader_number_l0 : CCode :=
 (.seq
 (.seq
  (.region 0 ([⟨(some 11), .mov (.t 7), none, 0, []⟩,
      ⟨(some 12), .mov (.t 1), none, 1, []⟩,
      ⟨(some 13), .bin .lss (.t 11) (.t 12), none, 2, []⟩]))
  (.cond (.t 13)
   (.skip)
   (.exit 0)))
 (.seq
 (.block 1
   (.region 0 ([⟨(some 16), .mov (.t 6), none, 0, []⟩,
       ⟨(some 17), .bin .mul (.c (.int .i64 256)) (.t 16), none, 1, []⟩,
       ⟨(some 18), .mov (.t 5), none, 2, []⟩,
       ⟨(some 19), .mov (.t 7), none, 3, []⟩,
       ⟨(some 20), .iaddrV 1 (.t 18) (.t 19), none, 4, []⟩,
       ⟨(some 21), .load1 (.t 20), none, 5, []⟩,
       ⟨(some 22), .convI .i64 (.t 21), none, 6, []⟩,
       ⟨(some 23), .bin .add (.t 17) (.t 22), none, 7, []⟩,
       ⟨(some 6), .mov (.t 23), none, 8, []⟩])))
 (.region 0 ([⟨(some 14), .mov (.t 7), none, 0, []⟩,
    ⟨(some 15), .bin .add (.t 14) (.c (.int .i64 1)), none, 1, []⟩,
    ⟨(some 7), .mov (.t 15), none, 2, []⟩]))))
def _tithing_tithingref26_reader_number : CFunc := ⟨25,
 (.seq
 (.region 0 ([⟨(some 4), .mov (.c (.int .i64 0)), none, 0, []⟩]))
 (.seq
 (.many 0 ([⟨(some 8), .mov (.t 0), none, 0, []⟩,
     ⟨(some 9), .mov (.t 1), none, 1, []⟩] ++
    (⟨(some 10), .callF 86 [(.t 8), (.t 9)], none, 2, []⟩ ::
    ([⟨(some 5), .mov (.t 10), none, 3, []⟩]))))
 (.seq
 (.region 0 ([⟨(some 6), .mov (.c (.int .i64 0)), none, 0, []⟩]))
 (.seq
 (.seq
  (.region 0 ([⟨(some 7), .mov (.c (.int .i64 0)), none, 0, []⟩]))
  (.block 0
   (.loop _tithing_tithingref26_reader_number_l0)))
 (.seq
 (.region 0 ([⟨(some 24), .mov (.t 6), none, 0, []⟩,
     ⟨(some 4), .mov (.t 24), none, 1, []⟩]))
 (.ret)))))),
 [.tmp 4]⟩
def _tithing_tithingref26_reader_check : CFunc := ⟨19,
 (.seq
 (.region 0 ([⟨(some 6), .mov (.t 1), none, 0, []⟩,
     ⟨(some 7), .un .not (.t 6), none, 1, []⟩,
     ⟨(some 8), .mov (.t 7), none, 2, []⟩,
     ⟨(some 9), .mov (.t 0), (some ((some 8), true)), 3, []⟩,
     ⟨(some 10), .nilCheck (.t 9), (some ((some 8), true)), 4, []⟩,
     ⟨(some 11), .faddr 2 (.t 10), (some ((some 8), true)), 5, []⟩,
     ⟨(some 12), .load1 (.t 11), (some ((some 8), true)), 6, []⟩,
     ⟨(some 13), .bin .eql (.t 12) (.c (.int .i64 0)), (some ((some 8), true)), 7, []⟩,
     ⟨(some 14), .pick (.t 8) (.t 13) (.c (.bool false)), none, 8, []⟩]))
 (.cond (.t 14)
  (.region 0 ([⟨(some 15), .mov (.t 0), none, 0, []⟩,
      ⟨(some 16), .mov (.t 2), none, 1, []⟩,
      ⟨(some 17), .nilCheck (.t 15), none, 2, []⟩,
      ⟨(some 18), .faddr 2 (.t 17), none, 3, []⟩,
      ⟨none, .store 1 (.t 18) (.t 16), none, 4, []⟩]))
  (.skip))),
 []⟩
def _tithing_tithingref26_reader_sized : CFunc := ⟨21,
 (.seq
 (.region 0 ([⟨(some 4), .mov (.c (.slice none 0 0)), none, 0, []⟩]))
 (.seq
 (.many 0 ([⟨(some 6), .mov (.t 0), none, 0, []⟩] ++
    (⟨(some 7), .callF 48 [(.t 6), (.c (.int .i64 2))], none, 1, []⟩ ::
    ([⟨(some 5), .mov (.t 7), none, 2, []⟩]))))
 (.seq
 (.many 0 ([⟨(some 8), .mov (.t 0), none, 0, []⟩,
     ⟨(some 9), .mov (.t 5), none, 1, []⟩,
     ⟨(some 10), .mov (.t 1), none, 2, []⟩,
     ⟨(some 11), .bin .leq (.t 9) (.t 10), none, 3, []⟩] ++
    (⟨(some 12), .callF 49 [(.t 8), (.t 11), (.c (.int .i64 3))], none, 4, []⟩ ::
    ([]))))
 (.seq
 (.seq
  (.region 0 ([⟨(some 13), .mov (.t 0), none, 0, []⟩,
      ⟨(some 14), .nilCheck (.t 13), none, 1, []⟩,
      ⟨(some 15), .faddr 2 (.t 14), none, 2, []⟩,
      ⟨(some 16), .load1 (.t 15), none, 3, []⟩,
      ⟨(some 17), .bin .neq (.t 16) (.c (.int .i64 0)), none, 4, []⟩]))
  (.cond (.t 17)
   (.seq
    (.region 0 ([⟨(some 4), .mov (.c (.slice none 0 0)), none, 0, []⟩]))
    (.ret))
   (.skip)))
 (.seq
 (.many 0 ([⟨(some 18), .mov (.t 0), none, 0, []⟩,
     ⟨(some 19), .mov (.t 5), none, 1, []⟩] ++
    (⟨(some 20), .callF 86 [(.t 18), (.t 19)], none, 2, []⟩ ::
    ([⟨(some 4), .mov (.t 20), none, 3, []⟩]))))
 (.ret)))))),
 [.tmp 4]⟩
def _tithing_tithingref26_reader_end : CFunc := ⟨19,
 (.seq
 (.region 0 ([⟨(some 2), .mov (.c (.int .i64 0)), none, 0, []⟩]))
 (.seq
 (.region 0 ([⟨(some 3), .mov (.t 0), none, 0, []⟩,
     ⟨(some 4), .mov (.t 0), none, 1, []⟩,
     ⟨(some 5), .nilCheck (.t 4), none, 2, []⟩,
     ⟨(some 6), .faddr 1 (.t 5), none, 3, []⟩,
     ⟨(some 7), .load1 (.t 6), none, 4, []⟩,
     ⟨(some 8), .mov (.t 0), none, 5, []⟩,
     ⟨(some 9), .nilCheck (.t 8), none, 6, []⟩,
     ⟨(some 10), .faddr 0 (.t 9), none, 7, []⟩,
     ⟨(some 11), .load1 (.t 10), none, 8, []⟩,
     ⟨(some 12), .lenV (.t 11), none, 9, []⟩,
     ⟨(some 13), .bin .eql (.t 7) (.t 12), none, 10, []⟩] ++
    (⟨(some 14), .callF 49 [(.t 3), (.t 13), (.c (.int .i64 3))], none, 11, []⟩ ::
    ([]))))
 (.seq
 (.region 0 ([⟨(some 15), .mov (.t 0), none, 0, []⟩,
     ⟨(some 16), .nilCheck (.t 15), none, 1, []⟩,
     ⟨(some 17), .faddr 2 (.t 16), none, 2, []⟩,
     ⟨(some 18), .load1 (.t 17), none, 3, []⟩,
     ⟨(some 2), .mov (.t 18), none, 4, []⟩]))
 (.ret)))),
 [.tmp 2]⟩
def _tithing_client_reader_fixed : CFunc := ⟨18,
 (.seq
 (.region 0 ([⟨(some 4), .mov (.c (.int .i64 0)), none, 0, []⟩]))
 (.seq
 (.many 0 ([⟨(some 9), .mov (.t 0), none, 0, []⟩,
     ⟨(some 10), .mov (.t 1), none, 1, []⟩] ++
    (⟨(some 11), .callF 85 [(.t 9), (.t 10)], none, 2, []⟩ ::
    ([⟨(some 12), .mov (.t 1), none, 3, []⟩] ++
    (⟨(some 13), .callF 89 [(.t 11), (.c (.int .i64 0)), (.t 12)], none, 4, []⟩ ::
    ([⟨(some 8), .mov (.t 13), none, 5, []⟩,
     ⟨(some 14), .extract (.t 8) 0, none, 6, []⟩,
     ⟨(some 15), .extract (.t 8) 1, none, 7, []⟩,
     ⟨(some 16), .extract (.t 8) 2, none, 8, []⟩,
     ⟨(some 5), .mov (.t 14), none, 9, []⟩,
     ⟨(some 6), .mov (.t 15), none, 10, []⟩,
     ⟨(some 7), .mov (.t 16), none, 11, []⟩]))))))
 (.seq
 (.region 0 ([⟨(some 17), .mov (.t 5), none, 0, []⟩,
     ⟨(some 4), .mov (.t 17), none, 1, []⟩]))
 (.ret)))),
 [.tmp 4]⟩
def tithingref18_SameItems_l0 : CCode :=
 (.seq
 (.seq
  (.region 0 ([⟨(some 11), .mov (.t 5), none, 0, []⟩,
      ⟨(some 12), .mov (.t 0), none, 1, []⟩,
      ⟨(some 13), .lenV (.t 12), none, 2, []⟩,
      ⟨(some 14), .bin .lss (.t 11) (.t 13), none, 3, []⟩]))
  (.cond (.t 14)
   (.skip)
   (.exit 0)))
 (.seq
 (.block 1
   (.seq
    (.region 0 ([⟨(some 17), .mov (.t 0), none, 0, []⟩,
        ⟨(some 18), .mov (.t 5), none, 1, []⟩,
        ⟨(some 19), .iaddrV 4 (.t 17) (.t 18), none, 2, []⟩,
        ⟨(some 20), .loadN 4 (.t 19), none, 3, []⟩,
        ⟨(some 21), .mov (.t 1), none, 4, []⟩,
        ⟨(some 22), .mov (.t 5), none, 5, []⟩,
        ⟨(some 23), .iaddrV 4 (.t 21) (.t 22), none, 6, []⟩,
        ⟨(some 24), .loadN 4 (.t 23), none, 7, []⟩,
        ⟨(some 25), .eqCells true 4 [(0, .int), (1, .int), (2, .str), (3, .bool)] (.t 20) (.t 24), none, 8, []⟩]))
    (.cond (.t 25)
     (.seq
      (.region 0 ([⟨(some 4), .mov (.c (.bool false)), none, 0, []⟩]))
      (.ret))
     (.skip))))
 (.region 0 ([⟨(some 15), .mov (.t 5), none, 0, []⟩,
    ⟨(some 16), .bin .add (.t 15) (.c (.int .i64 1)), none, 1, []⟩,
    ⟨(some 5), .mov (.t 16), none, 2, []⟩]))))
def tithingref18_SameItems : CFunc := ⟨26,
 (.seq
 (.region 0 ([⟨(some 4), .mov (.c (.bool false)), none, 0, []⟩]))
 (.seq
 (.seq
  (.region 0 ([⟨(some 6), .mov (.t 0), none, 0, []⟩,
      ⟨(some 7), .lenV (.t 6), none, 1, []⟩,
      ⟨(some 8), .mov (.t 1), none, 2, []⟩,
      ⟨(some 9), .lenV (.t 8), none, 3, []⟩,
      ⟨(some 10), .bin .neq (.t 7) (.t 9), none, 4, []⟩]))
  (.cond (.t 10)
   (.seq
    (.region 0 ([⟨(some 4), .mov (.c (.bool false)), none, 0, []⟩]))
    (.ret))
   (.skip)))
 (.seq
 (.seq
  (.region 0 ([⟨(some 5), .mov (.c (.int .i64 0)), none, 0, []⟩]))
  (.block 0
   (.loop tithingref18_SameItems_l0)))
 (.seq
 (.region 0 ([⟨(some 4), .mov (.c (.bool true)), none, 0, []⟩]))
 (.ret))))),
 [.tmp 4]⟩
def slices_Clone_byte_byte : CFunc := ⟨8,
 (.seq
 (.region 0 ([⟨(some 2), .mov (.c (.slice none 0 0)), none, 0, []⟩]))
 (.seq
 (.seq
  (.region 0 ([⟨(some 3), .mov (.t 0), none, 0, []⟩,
      ⟨(some 4), .eqNil false .sl (.t 3), none, 1, []⟩]))
  (.cond (.t 4)
   (.seq
    (.region 0 ([⟨(some 2), .mov (.c (.slice none 0 0)), none, 0, []⟩]))
    (.ret))
   (.skip)))
 (.seq
 (.region 4 ([⟨(some 5), .buildSlice 5 0 [] [], none, 0, []⟩,
     ⟨(some 6), .mov (.t 0), none, 1, []⟩,
     ⟨(some 7), .append 5 1 1 (.t 5) (.t 6), none, 2, []⟩,
     ⟨(some 2), .mov (.t 7), none, 3, []⟩]))
 (.ret)))),
 [.tmp 2]⟩
def _tithing_client_reader_fail : CFunc := ⟨10,
 (.seq
 (.region 0 ([⟨(some 2), .mov (.t 0), none, 0, []⟩,
     ⟨(some 3), .nilCheck (.t 2), none, 1, []⟩,
     ⟨(some 4), .faddr 2 (.t 3), none, 2, []⟩,
     ⟨(some 5), .load1 (.t 4), none, 3, []⟩,
     ⟨(some 6), .bin .eql (.t 5) (.c (.int .i64 0)), none, 4, []⟩]))
 (.cond (.t 6)
  (.region 0 ([⟨(some 7), .mov (.t 0), none, 0, []⟩,
      ⟨(some 8), .nilCheck (.t 7), none, 1, []⟩,
      ⟨(some 9), .faddr 2 (.t 8), none, 2, []⟩,
      ⟨none, .store 1 (.t 9) (.c (.int .i64 3)), none, 3, []⟩]))
  (.skip))),
 []⟩
def _tithing_client_reader_take : CFunc := ⟨57,
 (.seq
 (.region 0 ([⟨(some 4), .mov (.c (.slice none 0 0)), none, 0, []⟩]))
 (.seq
 (.seq
  (.region 0 ([⟨(some 5), .mov (.t 0), none, 0, []⟩,
      ⟨(some 6), .nilCheck (.t 5), none, 1, []⟩,
      ⟨(some 7), .faddr 2 (.t 6), none, 2, []⟩,
      ⟨(some 8), .load1 (.t 7), none, 3, []⟩,
      ⟨(some 9), .bin .eql (.t 8) (.c (.int .i64 0)), none, 4, []⟩,
      ⟨(some 10), .mov (.t 9), none, 5, []⟩,
      ⟨(some 11), .mov (.t 1), (some ((some 10), true)), 6, []⟩,
      ⟨(some 12), .mov (.t 0), (some ((some 10), true)), 7, []⟩,
      ⟨(some 13), .nilCheck (.t 12), (some ((some 10), true)), 8, []⟩,
      ⟨(some 14), .faddr 0 (.t 13), (some ((some 10), true)), 9, []⟩,
      ⟨(some 15), .load1 (.t 14), (some ((some 10), true)), 10, []⟩,
      ⟨(some 16), .lenV (.t 15), (some ((some 10), true)), 11, []⟩,
      ⟨(some 17), .mov (.t 0), (some ((some 10), true)), 12, []⟩,
      ⟨(some 18), .nilCheck (.t 17), (some ((some 10), true)), 13, []⟩,
      ⟨(some 19), .faddr 1 (.t 18), (some ((some 10), true)), 14, []⟩,
      ⟨(some 20), .load1 (.t 19), (some ((some 10), true)), 15, []⟩,
      ⟨(some 21), .bin .sub (.t 16) (.t 20), (some ((some 10), true)), 16, []⟩,
      ⟨(some 22), .bin .gtr (.t 11) (.t 21), (some ((some 10), true)), 17, []⟩,
      ⟨(some 23), .pick (.t 10) (.t 22) (.c (.bool false)), none, 18, []⟩]))
  (.cond (.t 23)
   (.region 0 ([⟨(some 24), .mov (.t 0), none, 0, []⟩,
       ⟨(some 25), .nilCheck (.t 24), none, 1, []⟩,
       ⟨(some 26), .faddr 2 (.t 25), none, 2, []⟩,
       ⟨none, .store 1 (.t 26) (.c (.int .i64 6)), none, 3, []⟩]))
   (.skip)))
 (.seq
 (.seq
  (.region 0 ([⟨(some 27), .mov (.t 0), none, 0, []⟩,
      ⟨(some 28), .nilCheck (.t 27), none, 1, []⟩,
      ⟨(some 29), .faddr 2 (.t 28), none, 2, []⟩,
      ⟨(some 30), .load1 (.t 29), none, 3, []⟩,
      ⟨(some 31), .bin .neq (.t 30) (.c (.int .i64 0)), none, 4, []⟩]))
  (.cond (.t 31)
   (.seq
    (.region 3 ([⟨(some 32), .mov (.t 1), none, 0, []⟩,
        ⟨(some 33), .mkSlice 5 1 [(.int .u8 0)] (.t 32) (.t 32), none, 1, []⟩,
        ⟨(some 4), .mov (.t 33), none, 2, []⟩]))
    (.ret))
   (.skip)))
 (.seq
 (.region 0 ([⟨(some 34), .mov (.t 0), none, 0, []⟩,
     ⟨(some 35), .nilCheck (.t 34), none, 1, []⟩,
     ⟨(some 36), .faddr 1 (.t 35), none, 2, []⟩,
     ⟨(some 37), .load1 (.t 36), none, 3, []⟩,
     ⟨(some 38), .mov (.t 1), none, 4, []⟩,
     ⟨(some 39), .bin .add (.t 37) (.t 38), none, 5, []⟩,
     ⟨(some 40), .nilCheck (.t 34), none, 6, []⟩,
     ⟨(some 41), .faddr 1 (.t 40), none, 7, []⟩,
     ⟨none, .store 1 (.t 41) (.t 39), none, 8, []⟩]))
 (.seq
 (.region 0 ([⟨(some 42), .mov (.t 0), none, 0, []⟩,
     ⟨(some 43), .nilCheck (.t 42), none, 1, []⟩,
     ⟨(some 44), .faddr 0 (.t 43), none, 2, []⟩,
     ⟨(some 45), .load1 (.t 44), none, 3, []⟩,
     ⟨(some 46), .mov (.t 0), none, 4, []⟩,
     ⟨(some 47), .nilCheck (.t 46), none, 5, []⟩,
     ⟨(some 48), .faddr 1 (.t 47), none, 6, []⟩,
     ⟨(some 49), .load1 (.t 48), none, 7, []⟩,
     ⟨(some 50), .mov (.t 1), none, 8, []⟩,
     ⟨(some 51), .bin .sub (.t 49) (.t 50), none, 9, []⟩,
     ⟨(some 52), .mov (.t 0), none, 10, []⟩,
     ⟨(some 53), .nilCheck (.t 52), none, 11, []⟩,
     ⟨(some 54), .faddr 1 (.t 53), none, 12, []⟩,
     ⟨(some 55), .load1 (.t 54), none, 13, []⟩,
     ⟨(some 56), .sliceV 1 (.t 45) (some (.t 51)) (some (.t 55)) none, none, 14, []⟩,
     ⟨(some 4), .mov (.t 56), none, 15, []⟩]))
 (.ret)))))),
 [.tmp 4]⟩
def _tithing_tithingref26_reader_bytes : CFunc := ⟨51,
 (.seq
 (.region 0 ([⟨(some 4), .mov (.c (.slice none 0 0)), none, 0, []⟩]))
 (.seq
 (.region 0 ([⟨(some 5), .mov (.t 0), none, 0, []⟩,
     ⟨(some 6), .mov (.t 1), none, 1, []⟩,
     ⟨(some 7), .mov (.t 0), none, 2, []⟩,
     ⟨(some 8), .nilCheck (.t 7), none, 3, []⟩,
     ⟨(some 9), .faddr 0 (.t 8), none, 4, []⟩,
     ⟨(some 10), .load1 (.t 9), none, 5, []⟩,
     ⟨(some 11), .lenV (.t 10), none, 6, []⟩,
     ⟨(some 12), .mov (.t 0), none, 7, []⟩,
     ⟨(some 13), .nilCheck (.t 12), none, 8, []⟩,
     ⟨(some 14), .faddr 1 (.t 13), none, 9, []⟩,
     ⟨(some 15), .load1 (.t 14), none, 10, []⟩,
     ⟨(some 16), .bin .sub (.t 11) (.t 15), none, 11, []⟩,
     ⟨(some 17), .bin .leq (.t 6) (.t 16), none, 12, []⟩] ++
    (⟨(some 18), .callF 49 [(.t 5), (.t 17), (.c (.int .i64 6))], none, 13, []⟩ ::
    ([]))))
 (.seq
 (.seq
  (.region 0 ([⟨(some 19), .mov (.t 0), none, 0, []⟩,
      ⟨(some 20), .nilCheck (.t 19), none, 1, []⟩,
      ⟨(some 21), .faddr 2 (.t 20), none, 2, []⟩,
      ⟨(some 22), .load1 (.t 21), none, 3, []⟩,
      ⟨(some 23), .bin .neq (.t 22) (.c (.int .i64 0)), none, 4, []⟩]))
  (.cond (.t 23)
   (.seq
    (.region 3 ([⟨(some 24), .mov (.t 1), none, 0, []⟩,
        ⟨(some 25), .mkSlice 5 1 [(.int .u8 0)] (.t 24) (.t 24), none, 1, []⟩,
        ⟨(some 4), .mov (.t 25), none, 2, []⟩]))
    (.ret))
   (.skip)))
 (.seq
 (.region 0 ([⟨(some 26), .mov (.t 0), none, 0, []⟩,
     ⟨(some 27), .nilCheck (.t 26), none, 1, []⟩,
     ⟨(some 28), .faddr 1 (.t 27), none, 2, []⟩,
     ⟨(some 29), .load1 (.t 28), none, 3, []⟩,
     ⟨(some 30), .mov (.t 1), none, 4, []⟩,
     ⟨(some 31), .bin .add (.t 29) (.t 30), none, 5, []⟩,
     ⟨(some 32), .nilCheck (.t 26), none, 6, []⟩,
     ⟨(some 33), .faddr 1 (.t 32), none, 7, []⟩,
     ⟨none, .store 1 (.t 33) (.t 31), none, 8, []⟩]))
 (.seq
 (.region 18 ([⟨(some 35), .mov (.t 0), none, 1, []⟩,
     ⟨(some 36), .nilCheck (.t 35), none, 2, []⟩,
     ⟨(some 37), .faddr 0 (.t 36), none, 3, []⟩,
     ⟨(some 38), .load1 (.t 37), none, 4, []⟩,
     ⟨(some 39), .mov (.t 0), none, 5, []⟩,
     ⟨(some 40), .nilCheck (.t 39), none, 6, []⟩,
     ⟨(some 41), .faddr 1 (.t 40), none, 7, []⟩,
     ⟨(some 42), .load1 (.t 41), none, 8, []⟩,
     ⟨(some 43), .mov (.t 1), none, 9, []⟩,
     ⟨(some 44), .bin .sub (.t 42) (.t 43), none, 10, []⟩,
     ⟨(some 45), .mov (.t 0), none, 11, []⟩,
     ⟨(some 46), .nilCheck (.t 45), none, 12, []⟩,
     ⟨(some 47), .faddr 1 (.t 46), none, 13, []⟩,
     ⟨(some 48), .load1 (.t 47), none, 14, []⟩,
     ⟨(some 49), .sliceV 1 (.t 38) (some (.t 44)) (some (.t 48)) none, none, 15, []⟩,
     ⟨(some 34), .buildSlice 5 0 [] [], none, 0, []⟩,
     ⟨(some 50), .append 5 1 1 (.t 34) (.t 49), none, 16, []⟩,
     ⟨(some 4), .mov (.t 50), none, 17, []⟩]))
 (.ret)))))),
 [.tmp 4]⟩
def octet_isWidth : CFunc := ⟨13,
 (.seq
 (.region 0 ([⟨(some 2), .mov (.c (.bool false)), none, 0, []⟩]))
 (.seq
 (.region 0 ([⟨(some 3), .mov (.t 0), none, 0, []⟩,
     ⟨(some 4), .bin .eql (.t 3) (.c (.int .i64 1)), none, 1, []⟩,
     ⟨(some 5), .mov (.t 4), none, 2, []⟩,
     ⟨(some 6), .mov (.t 0), (some ((some 5), false)), 3, []⟩,
     ⟨(some 7), .bin .eql (.t 6) (.c (.int .i64 2)), (some ((some 5), false)), 4, []⟩,
     ⟨(some 8), .pick (.t 5) (.c (.bool true)) (.t 7), none, 5, []⟩,
     ⟨(some 9), .mov (.t 8), none, 6, []⟩,
     ⟨(some 10), .mov (.t 0), (some ((some 9), false)), 7, []⟩,
     ⟨(some 11), .bin .eql (.t 10) (.c (.int .i64 4)), (some ((some 9), false)), 8, []⟩,
     ⟨(some 12), .pick (.t 9) (.c (.bool true)) (.t 11), none, 9, []⟩,
     ⟨(some 2), .mov (.t 12), none, 10, []⟩]))
 (.ret))),
 [.tmp 2]⟩
def octet_Get_l0 : CCode :=
 (.seq
 (.region 0 ([⟨(some 40), .bin .lss (.t 39) (.t 38), none, 0, []⟩]))
 (.seq
 (.cond (.t 40)
   (.skip)
   (.exit 1))
 (.seq
 (.block 2
   (.seq
    (.region 0 ([⟨(some 41), .iaddrV 1 (.t 37) (.t 39), none, 0, []⟩,
        ⟨(some 42), .load1 (.t 41), none, 1, []⟩,
        ⟨(some 10), .mov (.t 42), none, 2, []⟩]))
    (.region 0 ([⟨(some 43), .mov (.t 6), none, 0, []⟩,
       ⟨(some 44), .bin .shl (.t 43) (.c (.int .u64 8)), none, 1, []⟩,
       ⟨(some 45), .mov (.t 10), none, 2, []⟩,
       ⟨(some 46), .convI .i64 (.t 45), none, 3, []⟩,
       ⟨(some 47), .bin .or (.t 44) (.t 46), none, 4, []⟩,
       ⟨(some 6), .mov (.t 47), none, 5, []⟩]))))
 (.region 0 ([⟨(some 48), .bin .add (.t 39) (.c (.int .i64 1)), none, 0, []⟩,
    ⟨(some 39), .mov (.t 48), none, 1, []⟩])))))
def octet_Get : CFunc := ⟨53,
 (.seq
 (.region 0 ([⟨(some 6), .mov (.c (.int .i64 0)), none, 0, []⟩,
     ⟨(some 7), .mov (.c (.int .i64 0)), none, 1, []⟩,
     ⟨(some 8), .mov (.c (.int .i64 0)), none, 2, []⟩]))
 (.seq
 (.block 0
   (.seq
    (.many 0 ([⟨(some 12), .mov (.t 2), none, 0, []⟩] ++
       (⟨(some 13), .callF 88 [(.t 12)], none, 1, []⟩ ::
       ([⟨(some 14), .un .not (.t 13), none, 2, []⟩,
        ⟨(some 15), .mov (.t 14), none, 3, []⟩,
        ⟨(some 16), .mov (.t 1), (some ((some 15), false)), 4, []⟩,
        ⟨(some 17), .bin .lss (.t 16) (.c (.int .i64 0)), (some ((some 15), false)), 5, []⟩,
        ⟨(some 18), .pick (.t 15) (.c (.bool true)) (.t 17), none, 6, []⟩,
        ⟨(some 19), .mov (.t 18), none, 7, []⟩,
        ⟨(some 20), .mov (.t 1), (some ((some 19), false)), 8, []⟩,
        ⟨(some 21), .mov (.t 0), (some ((some 19), false)), 9, []⟩,
        ⟨(some 22), .lenV (.t 21), (some ((some 19), false)), 10, []⟩,
        ⟨(some 23), .bin .gtr (.t 20) (.t 22), (some ((some 19), false)), 11, []⟩,
        ⟨(some 24), .pick (.t 19) (.c (.bool true)) (.t 23), none, 12, []⟩,
        ⟨(some 11), .mov (.t 24), none, 13, []⟩]))))
    (.cond (.t 11)
     (.seq
      (.region 0 ([⟨(some 6), .mov (.c (.int .i64 0)), none, 0, []⟩,
          ⟨(some 7), .mov (.c (.int .i64 0)), none, 1, []⟩,
          ⟨(some 8), .mov (.c (.int .i64 2)), none, 2, []⟩]))
      (.ret))
     (.seq
      (.region 0 ([⟨(some 26), .mov (.t 0), none, 0, []⟩,
          ⟨(some 27), .lenV (.t 26), none, 1, []⟩,
          ⟨(some 28), .mov (.t 1), none, 2, []⟩,
          ⟨(some 29), .bin .sub (.t 27) (.t 28), none, 3, []⟩,
          ⟨(some 30), .mov (.t 2), none, 4, []⟩,
          ⟨(some 31), .bin .lss (.t 29) (.t 30), none, 5, []⟩,
          ⟨(some 25), .mov (.t 31), none, 6, []⟩]))
      (.cond (.t 25)
       (.seq
        (.region 0 ([⟨(some 6), .mov (.c (.int .i64 0)), none, 0, []⟩,
            ⟨(some 7), .mov (.c (.int .i64 0)), none, 1, []⟩,
            ⟨(some 8), .mov (.c (.int .i64 6)), none, 2, []⟩]))
        (.ret))
       (.skip))))))
 (.seq
 (.seq
  (.region 0 ([⟨(some 32), .mov (.t 0), none, 0, []⟩,
      ⟨(some 33), .mov (.t 1), none, 1, []⟩,
      ⟨(some 34), .mov (.t 1), none, 2, []⟩,
      ⟨(some 35), .mov (.t 2), none, 3, []⟩,
      ⟨(some 36), .bin .add (.t 34) (.t 35), none, 4, []⟩,
      ⟨(some 37), .sliceV 1 (.t 32) (some (.t 33)) (some (.t 36)) none, none, 5, []⟩,
      ⟨(some 38), .lenV (.t 37), none, 6, []⟩,
      ⟨(some 39), .mov (.c (.int .i64 0)), none, 7, []⟩]))
  (.block 1
   (.loop octet_Get_l0)))
 (.seq
 (.region 0 ([⟨(some 49), .mov (.t 6), none, 0, []⟩,
     ⟨(some 50), .mov (.t 1), none, 1, []⟩,
     ⟨(some 51), .mov (.t 2), none, 2, []⟩,
     ⟨(some 52), .bin .add (.t 50) (.t 51), none, 3, []⟩,
     ⟨(some 6), .mov (.t 49), none, 4, []⟩,
     ⟨(some 7), .mov (.t 52), none, 5, []⟩,
     ⟨(some 8), .mov (.c (.int .i64 0)), none, 6, []⟩]))
 (.ret))))),
 [.tmp 6, .tmp 7, .tmp 8]⟩
end Code
structure Codes (E : Env) : Prop where
  tithinglaw26_ClientReplyGets : Has E 6 Code.tithinglaw26_ClientReplyGets
  client_GetReply : Has E 18 Code.client_GetReply
  tithingref26_GetReply : Has E 19 Code.tithingref26_GetReply
  tithingref25_Same : Has E 20 Code.tithingref25_Same
  _tithing_client_reader_text : Has E 40 Code._tithing_client_reader_text
  _tithing_client_reader_number : Has E 41 Code._tithing_client_reader_number
  _tithing_client_reader_most : Has E 42 Code._tithing_client_reader_most
  _tithing_client_reader_long : Has E 44 Code._tithing_client_reader_long
  _tithing_client_reader_end : Has E 45 Code._tithing_client_reader_end
  _tithing_tithingref26_reader_text : Has E 46 Code._tithing_tithingref26_reader_text
  _tithing_tithingref26_reader_four : Has E 47 Code._tithing_tithingref26_reader_four
  _tithing_tithingref26_reader_number : Has E 48 Code._tithing_tithingref26_reader_number
  _tithing_tithingref26_reader_check : Has E 49 Code._tithing_tithingref26_reader_check
  _tithing_tithingref26_reader_sized : Has E 51 Code._tithing_tithingref26_reader_sized
  _tithing_tithingref26_reader_end : Has E 52 Code._tithing_tithingref26_reader_end
  _tithing_client_reader_fixed : Has E 55 Code._tithing_client_reader_fixed
  tithingref18_SameItems : Has E 56 Code.tithingref18_SameItems
  slices_Clone_byte_byte : Has E 76 Code.slices_Clone_byte_byte
  _tithing_client_reader_fail : Has E 84 Code._tithing_client_reader_fail
  _tithing_client_reader_take : Has E 85 Code._tithing_client_reader_take
  _tithing_tithingref26_reader_bytes : Has E 86 Code._tithing_tithingref26_reader_bytes
  octet_isWidth : Has E 88 Code.octet_isWidth
  octet_Get : Has E 89 Code.octet_Get
end Go.Ev
