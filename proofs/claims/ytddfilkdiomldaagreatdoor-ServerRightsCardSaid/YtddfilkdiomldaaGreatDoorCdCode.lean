/-
  The code of functions as the machine has it, by name; their numbers.
-/
import Derived.Test.YtddfilkdiomldaaGreatDoorEvPart3
set_option linter.unusedVariables false
namespace Go.Ev
namespace Code
/-- 3 -/
def tithinglaw25_ServerRights : CFunc := ⟨70,
 (.seq
 (.region 2 ([⟨(some 2), .box 23 (.t 0), none, 0, []⟩,
     ⟨(some 4), .mov (.c (.bool false)), none, 1, []⟩]))
 (.seq
 (.many 0 ([⟨(some 16), .loadN 6 (.t 2), none, 0, []⟩] ++
    (⟨(some 17), .callF 4 [(.t 16)], none, 1, []⟩ ::
    ([⟨(some 15), .mov (.t 17), none, 2, []⟩,
     ⟨(some 18), .extract (.t 15) 0, none, 3, []⟩,
     ⟨(some 19), .extract (.t 15) 1, none, 4, []⟩,
     ⟨(some 5), .mov (.t 18), none, 5, []⟩,
     ⟨(some 6), .mov (.t 19), none, 6, []⟩]))))
 (.seq
 (.many 0 ([⟨(some 21), .loadN 6 (.t 2), none, 0, []⟩] ++
    (⟨(some 22), .callF 5 [(.t 21)], none, 1, []⟩ ::
    ([⟨(some 20), .mov (.t 22), none, 2, []⟩,
     ⟨(some 23), .extract (.t 20) 0, none, 3, []⟩,
     ⟨(some 24), .extract (.t 20) 1, none, 4, []⟩,
     ⟨(some 7), .mov (.t 23), none, 5, []⟩,
     ⟨(some 8), .mov (.t 24), none, 6, []⟩]))))
 (.seq
 (.many 8 ([⟨(some 26), .mov (.t 1), none, 0, []⟩] ++
    (⟨(some 27), .callF 6 [(.t 26)], none, 1, []⟩ ::
    ([⟨(some 25), .mov (.t 27), none, 2, []⟩,
     ⟨(some 28), .extract (.t 25) 0, none, 3, []⟩,
     ⟨(some 29), .extract (.t 25) 1, none, 4, []⟩,
     ⟨(some 9), .alloc 23 [(.int .i64 0), (.int .i64 0), (.int .i64 0), (.int .i64 0), (.int .i64 0), (.bool false)], none, 5, []⟩,
     ⟨none, .store 6 (.t 9) (.t 28), none, 6, []⟩,
     ⟨(some 10), .mov (.t 29), none, 7, []⟩]))))
 (.seq
 (.many 8 ([⟨(some 31), .mov (.t 1), none, 0, []⟩] ++
    (⟨(some 32), .callF 7 [(.t 31)], none, 1, []⟩ ::
    ([⟨(some 30), .mov (.t 32), none, 2, []⟩,
     ⟨(some 33), .extract (.t 30) 0, none, 3, []⟩,
     ⟨(some 34), .extract (.t 30) 1, none, 4, []⟩,
     ⟨(some 11), .alloc 23 [(.int .i64 0), (.int .i64 0), (.int .i64 0), (.int .i64 0), (.int .i64 0), (.bool false)], none, 5, []⟩,
     ⟨none, .store 6 (.t 11) (.t 33), none, 6, []⟩,
     ⟨(some 12), .mov (.t 34), none, 7, []⟩]))))
 (.seq
 (.seq
  (.region 0 ([⟨(some 35), .mov (.t 5), none, 0, []⟩,
      ⟨(some 36), .convBS (.t 35), none, 1, []⟩,
      ⟨(some 37), .mov (.t 7), none, 2, []⟩,
      ⟨(some 38), .convBS (.t 37), none, 3, []⟩,
      ⟨(some 39), .bin .neq (.t 36) (.t 38), none, 4, []⟩,
      ⟨(some 40), .mov (.t 39), none, 5, []⟩,
      ⟨(some 41), .mov (.t 6), (some ((some 40), false)), 6, []⟩,
      ⟨(some 42), .mov (.t 8), (some ((some 40), false)), 7, []⟩,
      ⟨(some 43), .bin .neq (.t 41) (.t 42), (some ((some 40), false)), 8, []⟩,
      ⟨(some 44), .pick (.t 40) (.c (.bool true)) (.t 43), none, 9, []⟩,
      ⟨(some 45), .mov (.t 44), none, 10, []⟩,
      ⟨(some 46), .loadN 6 (.t 9), (some ((some 45), false)), 11, []⟩,
      ⟨(some 47), .loadN 6 (.t 11), (some ((some 45), false)), 12, []⟩,
      ⟨(some 48), .eqCells true 6 [(0, .int), (1, .int), (2, .int), (3, .int), (4, .int), (5, .bool)] (.t 46) (.t 47), (some ((some 45), false)), 13, []⟩,
      ⟨(some 49), .pick (.t 45) (.c (.bool true)) (.t 48), none, 14, []⟩,
      ⟨(some 50), .mov (.t 49), none, 15, []⟩,
      ⟨(some 51), .mov (.t 10), (some ((some 50), false)), 16, []⟩,
      ⟨(some 52), .mov (.t 12), (some ((some 50), false)), 17, []⟩,
      ⟨(some 53), .bin .neq (.t 51) (.t 52), (some ((some 50), false)), 18, []⟩,
      ⟨(some 54), .pick (.t 50) (.c (.bool true)) (.t 53), none, 19, []⟩]))
  (.cond (.t 54)
   (.seq
    (.region 0 ([⟨(some 4), .mov (.c (.bool false)), none, 0, []⟩]))
    (.ret))
   (.skip)))
 (.seq
 (.seq
  (.region 0 ([⟨(some 55), .mov (.t 6), none, 0, []⟩,
      ⟨(some 56), .bin .eql (.t 55) (.c (.int .i64 0)), none, 1, []⟩]))
  (.cond (.t 56)
   (.seq
    (.many 8 ([⟨(some 58), .mov (.t 5), none, 0, []⟩] ++
       (⟨(some 59), .callF 6 [(.t 58)], none, 1, []⟩ ::
       ([⟨(some 57), .mov (.t 59), none, 2, []⟩,
        ⟨(some 60), .extract (.t 57) 0, none, 3, []⟩,
        ⟨(some 61), .extract (.t 57) 1, none, 4, []⟩,
        ⟨(some 13), .alloc 23 [(.int .i64 0), (.int .i64 0), (.int .i64 0), (.int .i64 0), (.int .i64 0), (.bool false)], none, 5, []⟩,
        ⟨none, .store 6 (.t 13) (.t 60), none, 6, []⟩,
        ⟨(some 14), .mov (.t 61), none, 7, []⟩]))))
    (.seq
    (.region 0 ([⟨(some 62), .mov (.t 14), none, 0, []⟩,
        ⟨(some 63), .bin .neq (.t 62) (.c (.int .i64 0)), none, 1, []⟩,
        ⟨(some 64), .mov (.t 63), none, 2, []⟩,
        ⟨(some 65), .loadN 6 (.t 13), (some ((some 64), false)), 3, []⟩,
        ⟨(some 66), .loadN 6 (.t 2), (some ((some 64), false)), 4, []⟩,
        ⟨(some 67), .eqCells true 6 [(0, .int), (1, .int), (2, .int), (3, .int), (4, .int), (5, .bool)] (.t 65) (.t 66), (some ((some 64), false)), 5, []⟩,
        ⟨(some 68), .pick (.t 64) (.c (.bool true)) (.t 67), none, 6, []⟩]))
    (.cond (.t 68)
     (.seq
      (.region 0 ([⟨(some 4), .mov (.c (.bool false)), none, 0, []⟩]))
      (.ret))
     (.skip))))
   (.skip)))
 (.seq
 (.many 0 (⟨(some 69), .callF 8 [], none, 0, []⟩ ::
    ([⟨(some 4), .mov (.t 69), none, 1, []⟩])))
 (.ret))))))))),
 [.tmp 4]⟩
/-- 4 -/
def server_PutRights : CFunc := ⟨49,
 (.seq
 (.region 3 ([⟨(some 1), .box 23 (.t 0), none, 0, []⟩,
     ⟨(some 2), .mov (.c (.slice none 0 0)), none, 1, []⟩,
     ⟨(some 3), .mov (.c (.int .i64 0)), none, 2, []⟩]))
 (.seq
 (.many 0 ([⟨(some 10), .faddr 0 (.t 1), none, 0, []⟩,
     ⟨(some 11), .load1 (.t 10), none, 1, []⟩] ++
    (⟨(some 12), .callF 9 [(.c (.int .i64 4)), (.t 11)], none, 2, []⟩ ::
    ([⟨(some 9), .mov (.t 12), none, 3, []⟩,
     ⟨(some 13), .extract (.t 9) 0, none, 4, []⟩,
     ⟨(some 14), .extract (.t 9) 1, none, 5, []⟩,
     ⟨(some 4), .mov (.t 13), none, 6, []⟩,
     ⟨(some 5), .mov (.t 14), none, 7, []⟩]))))
 (.seq
 (.many 0 ([⟨(some 16), .faddr 1 (.t 1), none, 0, []⟩,
     ⟨(some 17), .load1 (.t 16), none, 1, []⟩] ++
    (⟨(some 18), .callF 9 [(.c (.int .i64 4)), (.t 17)], none, 2, []⟩ ::
    ([⟨(some 15), .mov (.t 18), none, 3, []⟩,
     ⟨(some 19), .extract (.t 15) 0, none, 4, []⟩,
     ⟨(some 20), .extract (.t 15) 1, none, 5, []⟩,
     ⟨(some 6), .mov (.t 19), none, 6, []⟩,
     ⟨(some 7), .mov (.t 20), none, 7, []⟩]))))
 (.seq
 (.seq
  (.many 0 ([⟨(some 21), .loadN 6 (.t 1), none, 0, []⟩] ++
     (⟨(some 22), .callF 10 [(.t 21)], none, 1, []⟩ ::
     ([⟨(some 23), .un .not (.t 22), none, 2, []⟩,
      ⟨(some 24), .mov (.t 23), none, 3, []⟩,
      ⟨(some 25), .mov (.t 5), (some ((some 24), false)), 4, []⟩,
      ⟨(some 26), .bin .neq (.t 25) (.c (.int .i64 0)), (some ((some 24), false)), 5, []⟩,
      ⟨(some 27), .pick (.t 24) (.c (.bool true)) (.t 26), none, 6, []⟩,
      ⟨(some 28), .mov (.t 27), none, 7, []⟩,
      ⟨(some 29), .mov (.t 7), (some ((some 28), false)), 8, []⟩,
      ⟨(some 30), .bin .neq (.t 29) (.c (.int .i64 0)), (some ((some 28), false)), 9, []⟩,
      ⟨(some 31), .pick (.t 28) (.c (.bool true)) (.t 30), none, 10, []⟩]))))
  (.cond (.t 31)
   (.seq
    (.region 0 ([⟨(some 2), .mov (.c (.slice none 0 0)), none, 0, []⟩,
        ⟨(some 3), .mov (.c (.int .i64 2)), none, 1, []⟩]))
    (.ret))
   (.skip)))
 (.seq
 (.region 0 ([⟨(some 8), .mov (.c (.int .u8 0)), none, 0, []⟩]))
 (.seq
 (.seq
  (.region 0 ([⟨(some 32), .faddr 5 (.t 1), none, 0, []⟩,
      ⟨(some 33), .load1 (.t 32), none, 1, []⟩]))
  (.cond (.t 33)
   (.region 0 ([⟨(some 8), .mov (.c (.int .u8 1)), none, 0, []⟩]))
   (.skip)))
 (.seq
 (.many 17 ([⟨(some 34), .mov (.t 4), none, 0, []⟩,
     ⟨(some 35), .mov (.t 6), none, 1, []⟩,
     ⟨(some 36), .faddr 2 (.t 1), none, 2, []⟩,
     ⟨(some 37), .load1 (.t 36), none, 3, []⟩,
     ⟨(some 38), .convI .u8 (.t 37), none, 4, []⟩,
     ⟨(some 39), .faddr 3 (.t 1), none, 5, []⟩,
     ⟨(some 40), .load1 (.t 39), none, 6, []⟩,
     ⟨(some 41), .convI .u8 (.t 40), none, 7, []⟩,
     ⟨(some 42), .faddr 4 (.t 1), none, 8, []⟩,
     ⟨(some 43), .load1 (.t 42), none, 9, []⟩,
     ⟨(some 44), .convI .u8 (.t 43), none, 10, []⟩,
     ⟨(some 45), .mov (.t 8), none, 11, []⟩,
     ⟨(some 46), .buildSlice 5 4 [(.int .u8 0), (.int .u8 0), (.int .u8 0), (.int .u8 0)] [(0, 1, (.t 38)), (1, 1, (.t 41)), (2, 1, (.t 44)), (3, 1, (.t 45))], none, 12, []⟩,
     ⟨(some 47), .buildSlice 24 3 [(.slice none 0 0), (.slice none 0 0), (.slice none 0 0)] [(0, 1, (.t 34)), (1, 1, (.t 35)), (2, 1, (.t 46))], none, 13, []⟩] ++
    (⟨(some 48), .callF 11 [(.t 47)], none, 14, []⟩ ::
    ([⟨(some 2), .mov (.t 48), none, 15, []⟩,
     ⟨(some 3), .mov (.c (.int .i64 0)), none, 16, []⟩]))))
 (.ret)))))))),
 [.tmp 2, .tmp 3]⟩
/-- 5 -/
def tithingref25_PutRights : CFunc := ⟨39,
 (.seq
 (.region 3 ([⟨(some 1), .box 23 (.t 0), none, 0, []⟩,
     ⟨(some 2), .mov (.c (.slice none 0 0)), none, 1, []⟩,
     ⟨(some 3), .mov (.c (.int .i64 0)), none, 2, []⟩]))
 (.seq
 (.seq
  (.many 0 ([⟨(some 5), .loadN 6 (.t 1), none, 0, []⟩] ++
     (⟨(some 6), .callF 12 [(.t 5)], none, 1, []⟩ ::
     ([⟨(some 7), .un .not (.t 6), none, 2, []⟩,
      ⟨(some 8), .mov (.t 7), none, 3, []⟩,
      ⟨(some 9), .faddr 0 (.t 1), (some ((some 8), false)), 4, []⟩,
      ⟨(some 10), .load1 (.t 9), (some ((some 8), false)), 5, []⟩,
      ⟨(some 11), .bin .gtr (.t 10) (.c (.int .i64 4294967295)), (some ((some 8), false)), 6, []⟩,
      ⟨(some 12), .pick (.t 8) (.c (.bool true)) (.t 11), none, 7, []⟩,
      ⟨(some 13), .mov (.t 12), none, 8, []⟩,
      ⟨(some 14), .faddr 1 (.t 1), (some ((some 13), false)), 9, []⟩,
      ⟨(some 15), .load1 (.t 14), (some ((some 13), false)), 10, []⟩,
      ⟨(some 16), .bin .gtr (.t 15) (.c (.int .i64 4294967295)), (some ((some 13), false)), 11, []⟩,
      ⟨(some 17), .pick (.t 13) (.c (.bool true)) (.t 16), none, 12, []⟩]))))
  (.cond (.t 17)
   (.seq
    (.region 0 ([⟨(some 2), .mov (.c (.slice none 0 0)), none, 0, []⟩,
        ⟨(some 3), .mov (.c (.int .i64 2)), none, 1, []⟩]))
    (.ret))
   (.skip)))
 (.seq
 (.region 0 ([⟨(some 4), .mov (.c (.int .u8 0)), none, 0, []⟩]))
 (.seq
 (.seq
  (.region 0 ([⟨(some 18), .faddr 5 (.t 1), none, 0, []⟩,
      ⟨(some 19), .load1 (.t 18), none, 1, []⟩]))
  (.cond (.t 19)
   (.region 0 ([⟨(some 4), .mov (.c (.int .u8 1)), none, 0, []⟩]))
   (.skip)))
 (.seq
 (.region 21 ([⟨(some 20), .faddr 0 (.t 1), none, 0, []⟩,
     ⟨(some 21), .load1 (.t 20), none, 1, []⟩,
     ⟨(some 23), .faddr 1 (.t 1), none, 3, []⟩,
     ⟨(some 24), .load1 (.t 23), none, 4, []⟩,
     ⟨(some 27), .faddr 2 (.t 1), none, 7, []⟩,
     ⟨(some 28), .load1 (.t 27), none, 8, []⟩,
     ⟨(some 29), .convI .u8 (.t 28), none, 9, []⟩,
     ⟨(some 30), .faddr 3 (.t 1), none, 10, []⟩,
     ⟨(some 31), .load1 (.t 30), none, 11, []⟩,
     ⟨(some 32), .convI .u8 (.t 31), none, 12, []⟩,
     ⟨(some 33), .faddr 4 (.t 1), none, 13, []⟩,
     ⟨(some 34), .load1 (.t 33), none, 14, []⟩,
     ⟨(some 35), .convI .u8 (.t 34), none, 15, []⟩,
     ⟨(some 36), .mov (.t 4), none, 16, []⟩] ++
    (⟨(some 22), .callF 13 [(.t 21)], none, 2, [((some 24), .load1 (.t 23), none), ((some 28), .load1 (.t 27), none), ((some 31), .load1 (.t 30), none), ((some 34), .load1 (.t 33), none)]⟩ ::
    (⟨(some 25), .callF 13 [(.t 24)], none, 5, [((some 28), .load1 (.t 27), none), ((some 31), .load1 (.t 30), none), ((some 34), .load1 (.t 33), none)]⟩ ::
    ([⟨(some 26), .append 5 1 1 (.t 22) (.t 25), none, 6, [((some 28), .load1 (.t 27), none), ((some 31), .load1 (.t 30), none), ((some 34), .load1 (.t 33), none)]⟩,
     ⟨(some 37), .buildSlice 5 4 [(.int .u8 0), (.int .u8 0), (.int .u8 0), (.int .u8 0)] [(0, 1, (.t 29)), (1, 1, (.t 32)), (2, 1, (.t 35)), (3, 1, (.t 36))], none, 17, []⟩,
     ⟨(some 38), .append 5 1 1 (.t 26) (.t 37), none, 18, []⟩,
     ⟨(some 2), .mov (.t 38), none, 19, []⟩,
     ⟨(some 3), .mov (.c (.int .i64 0)), none, 20, []⟩])))))
 (.ret)))))),
 [.tmp 2, .tmp 3]⟩
/-- 6 -/
def server_GetRights : CFunc := ⟨51,
 (.seq
 (.region 2 ([⟨(some 2), .alloc 23 [(.int .i64 0), (.int .i64 0), (.int .i64 0), (.int .i64 0), (.int .i64 0), (.bool false)], none, 0, []⟩,
     ⟨(some 3), .mov (.c (.int .i64 0)), none, 1, []⟩]))
 (.seq
 (.seq
  (.region 0 ([⟨(some 5), .mov (.t 0), none, 0, []⟩,
      ⟨(some 6), .lenV (.t 5), none, 1, []⟩,
      ⟨(some 7), .bin .neq (.t 6) (.c (.int .i64 12)), none, 2, []⟩,
      ⟨(some 8), .mov (.t 7), none, 3, []⟩,
      ⟨(some 9), .mov (.t 0), (some ((some 8), false)), 4, []⟩,
      ⟨(some 10), .iaddrV 1 (.t 9) (.c (.int .i64 11)), (some ((some 8), false)), 5, []⟩,
      ⟨(some 11), .load1 (.t 10), (some ((some 8), false)), 6, []⟩,
      ⟨(some 12), .bin .gtr (.t 11) (.c (.int .u8 1)), (some ((some 8), false)), 7, []⟩,
      ⟨(some 13), .pick (.t 8) (.c (.bool true)) (.t 12), none, 8, []⟩]))
  (.cond (.t 13)
   (.seq
    (.region 0 ([⟨(some 14), .build [(.int .i64 0), (.int .i64 0), (.int .i64 0), (.int .i64 0), (.int .i64 0), (.bool false)] [], none, 0, []⟩,
        ⟨none, .store 6 (.t 2) (.t 14), none, 1, []⟩,
        ⟨(some 3), .mov (.c (.int .i64 3)), none, 2, []⟩]))
    (.ret))
   (.skip)))
 (.seq
 (.region 19 ([⟨(some 15), .mov (.t 0), none, 0, []⟩,
     ⟨(some 16), .iaddrV 1 (.t 15) (.c (.int .i64 8)), none, 1, []⟩,
     ⟨(some 17), .load1 (.t 16), none, 2, []⟩,
     ⟨(some 18), .convI .i64 (.t 17), none, 3, []⟩,
     ⟨(some 19), .mov (.t 0), none, 4, []⟩,
     ⟨(some 20), .iaddrV 1 (.t 19) (.c (.int .i64 9)), none, 5, []⟩,
     ⟨(some 21), .load1 (.t 20), none, 6, []⟩,
     ⟨(some 22), .convI .i64 (.t 21), none, 7, []⟩,
     ⟨(some 23), .mov (.t 0), none, 8, []⟩,
     ⟨(some 24), .iaddrV 1 (.t 23) (.c (.int .i64 10)), none, 9, []⟩,
     ⟨(some 25), .load1 (.t 24), none, 10, []⟩,
     ⟨(some 26), .convI .i64 (.t 25), none, 11, []⟩,
     ⟨(some 27), .mov (.t 0), none, 12, []⟩,
     ⟨(some 28), .iaddrV 1 (.t 27) (.c (.int .i64 11)), none, 13, []⟩,
     ⟨(some 29), .load1 (.t 28), none, 14, []⟩,
     ⟨(some 30), .bin .eql (.t 29) (.c (.int .u8 1)), none, 15, []⟩,
     ⟨(some 31), .build [(.int .i64 0), (.int .i64 0), (.int .i64 0), (.int .i64 0), (.int .i64 0), (.bool false)] [(2, 1, (.t 18)), (3, 1, (.t 22)), (4, 1, (.t 26)), (5, 1, (.t 30))], none, 16, []⟩,
     ⟨(some 4), .alloc 23 [(.int .i64 0), (.int .i64 0), (.int .i64 0), (.int .i64 0), (.int .i64 0), (.bool false)], none, 17, []⟩,
     ⟨none, .store 6 (.t 4) (.t 31), none, 18, []⟩]))
 (.seq
 (.many 0 ([⟨(some 33), .mov (.t 0), none, 0, []⟩] ++
    (⟨(some 34), .callF 14 [(.t 33), (.c (.int .i64 0)), (.c (.int .i64 4))], none, 1, []⟩ ::
    ([⟨(some 32), .mov (.t 34), none, 2, []⟩,
     ⟨(some 35), .extract (.t 32) 0, none, 3, []⟩,
     ⟨(some 36), .extract (.t 32) 1, none, 4, []⟩,
     ⟨(some 37), .extract (.t 32) 2, none, 5, []⟩,
     ⟨(some 38), .faddr 0 (.t 4), none, 6, []⟩,
     ⟨none, .store 1 (.t 38) (.t 35), none, 7, []⟩]))))
 (.seq
 (.many 0 ([⟨(some 40), .mov (.t 0), none, 0, []⟩] ++
    (⟨(some 41), .callF 14 [(.t 40), (.c (.int .i64 4)), (.c (.int .i64 4))], none, 1, []⟩ ::
    ([⟨(some 39), .mov (.t 41), none, 2, []⟩,
     ⟨(some 42), .extract (.t 39) 0, none, 3, []⟩,
     ⟨(some 43), .extract (.t 39) 1, none, 4, []⟩,
     ⟨(some 44), .extract (.t 39) 2, none, 5, []⟩,
     ⟨(some 45), .faddr 1 (.t 4), none, 6, []⟩,
     ⟨none, .store 1 (.t 45) (.t 42), none, 7, []⟩]))))
 (.seq
 (.seq
  (.many 0 ([⟨(some 46), .loadN 6 (.t 4), none, 0, []⟩] ++
     (⟨(some 47), .callF 10 [(.t 46)], none, 1, []⟩ ::
     ([⟨(some 48), .un .not (.t 47), none, 2, []⟩]))))
  (.cond (.t 48)
   (.seq
    (.region 0 ([⟨(some 49), .build [(.int .i64 0), (.int .i64 0), (.int .i64 0), (.int .i64 0), (.int .i64 0), (.bool false)] [], none, 0, []⟩,
        ⟨none, .store 6 (.t 2) (.t 49), none, 1, []⟩,
        ⟨(some 3), .mov (.c (.int .i64 3)), none, 2, []⟩]))
    (.ret))
   (.skip)))
 (.seq
 (.region 0 ([⟨(some 50), .loadN 6 (.t 4), none, 0, []⟩,
     ⟨none, .store 6 (.t 2) (.t 50), none, 1, []⟩,
     ⟨(some 3), .mov (.c (.int .i64 0)), none, 2, []⟩]))
 (.ret)))))))),
 [.cell 2 true 6, .tmp 3]⟩
def tithingref25_GetRights_l0 : CCode :=
 (.seq
 (.seq
  (.region 0 ([⟨(some 33), .mov (.t 5), none, 0, []⟩,
      ⟨(some 34), .bin .lss (.t 33) (.c (.int .i64 4)), none, 1, []⟩]))
  (.cond (.t 34)
   (.skip)
   (.exit 0)))
 (.seq
 (.block 1
   (.seq
    (.region 0 ([⟨(some 37), .faddr 0 (.t 4), none, 0, []⟩,
        ⟨(some 38), .load1 (.t 37), none, 1, []⟩,
        ⟨(some 39), .bin .mul (.t 38) (.c (.int .i64 256)), none, 2, []⟩,
        ⟨(some 40), .mov (.t 0), none, 3, []⟩,
        ⟨(some 41), .mov (.t 5), none, 4, []⟩,
        ⟨(some 42), .iaddrV 1 (.t 40) (.t 41), none, 5, []⟩,
        ⟨(some 43), .load1 (.t 42), none, 6, []⟩,
        ⟨(some 44), .convI .i64 (.t 43), none, 7, []⟩,
        ⟨(some 45), .bin .add (.t 39) (.t 44), none, 8, []⟩,
        ⟨(some 46), .faddr 0 (.t 4), none, 9, []⟩,
        ⟨none, .store 1 (.t 46) (.t 45), none, 10, []⟩]))
    (.region 0 ([⟨(some 47), .faddr 1 (.t 4), none, 0, []⟩,
       ⟨(some 48), .load1 (.t 47), none, 1, []⟩,
       ⟨(some 49), .bin .mul (.t 48) (.c (.int .i64 256)), none, 2, []⟩,
       ⟨(some 50), .mov (.t 0), none, 3, []⟩,
       ⟨(some 51), .mov (.t 5), none, 4, []⟩,
       ⟨(some 52), .bin .add (.c (.int .i64 4)) (.t 51), none, 5, []⟩,
       ⟨(some 53), .iaddrV 1 (.t 50) (.t 52), none, 6, []⟩,
       ⟨(some 54), .load1 (.t 53), none, 7, []⟩,
       ⟨(some 55), .convI .i64 (.t 54), none, 8, []⟩,
       ⟨(some 56), .bin .add (.t 49) (.t 55), none, 9, []⟩,
       ⟨(some 57), .faddr 1 (.t 4), none, 10, []⟩,
       ⟨none, .store 1 (.t 57) (.t 56), none, 11, []⟩]))))
 (.region 0 ([⟨(some 35), .mov (.t 5), none, 0, []⟩,
    ⟨(some 36), .bin .add (.t 35) (.c (.int .i64 1)), none, 1, []⟩,
    ⟨(some 5), .mov (.t 36), none, 2, []⟩]))))
/-- 7 -/
def tithingref25_GetRights : CFunc := ⟨63,
 (.seq
 (.region 2 ([⟨(some 2), .alloc 23 [(.int .i64 0), (.int .i64 0), (.int .i64 0), (.int .i64 0), (.int .i64 0), (.bool false)], none, 0, []⟩,
     ⟨(some 3), .mov (.c (.int .i64 0)), none, 1, []⟩]))
 (.seq
 (.seq
  (.region 0 ([⟨(some 6), .mov (.t 0), none, 0, []⟩,
      ⟨(some 7), .lenV (.t 6), none, 1, []⟩,
      ⟨(some 8), .bin .neq (.t 7) (.c (.int .i64 12)), none, 2, []⟩,
      ⟨(some 9), .mov (.t 8), none, 3, []⟩,
      ⟨(some 10), .mov (.t 0), (some ((some 9), false)), 4, []⟩,
      ⟨(some 11), .iaddrV 1 (.t 10) (.c (.int .i64 11)), (some ((some 9), false)), 5, []⟩,
      ⟨(some 12), .load1 (.t 11), (some ((some 9), false)), 6, []⟩,
      ⟨(some 13), .bin .gtr (.t 12) (.c (.int .u8 1)), (some ((some 9), false)), 7, []⟩,
      ⟨(some 14), .pick (.t 9) (.c (.bool true)) (.t 13), none, 8, []⟩]))
  (.cond (.t 14)
   (.seq
    (.region 0 ([⟨(some 15), .build [(.int .i64 0), (.int .i64 0), (.int .i64 0), (.int .i64 0), (.int .i64 0), (.bool false)] [], none, 0, []⟩,
        ⟨none, .store 6 (.t 2) (.t 15), none, 1, []⟩,
        ⟨(some 3), .mov (.c (.int .i64 3)), none, 2, []⟩]))
    (.ret))
   (.skip)))
 (.seq
 (.region 19 ([⟨(some 16), .mov (.t 0), none, 0, []⟩,
     ⟨(some 17), .iaddrV 1 (.t 16) (.c (.int .i64 8)), none, 1, []⟩,
     ⟨(some 18), .load1 (.t 17), none, 2, []⟩,
     ⟨(some 19), .convI .i64 (.t 18), none, 3, []⟩,
     ⟨(some 20), .mov (.t 0), none, 4, []⟩,
     ⟨(some 21), .iaddrV 1 (.t 20) (.c (.int .i64 9)), none, 5, []⟩,
     ⟨(some 22), .load1 (.t 21), none, 6, []⟩,
     ⟨(some 23), .convI .i64 (.t 22), none, 7, []⟩,
     ⟨(some 24), .mov (.t 0), none, 8, []⟩,
     ⟨(some 25), .iaddrV 1 (.t 24) (.c (.int .i64 10)), none, 9, []⟩,
     ⟨(some 26), .load1 (.t 25), none, 10, []⟩,
     ⟨(some 27), .convI .i64 (.t 26), none, 11, []⟩,
     ⟨(some 28), .mov (.t 0), none, 12, []⟩,
     ⟨(some 29), .iaddrV 1 (.t 28) (.c (.int .i64 11)), none, 13, []⟩,
     ⟨(some 30), .load1 (.t 29), none, 14, []⟩,
     ⟨(some 31), .bin .eql (.t 30) (.c (.int .u8 1)), none, 15, []⟩,
     ⟨(some 32), .build [(.int .i64 0), (.int .i64 0), (.int .i64 0), (.int .i64 0), (.int .i64 0), (.bool false)] [(2, 1, (.t 19)), (3, 1, (.t 23)), (4, 1, (.t 27)), (5, 1, (.t 31))], none, 16, []⟩,
     ⟨(some 4), .alloc 23 [(.int .i64 0), (.int .i64 0), (.int .i64 0), (.int .i64 0), (.int .i64 0), (.bool false)], none, 17, []⟩,
     ⟨none, .store 6 (.t 4) (.t 32), none, 18, []⟩]))
 (.seq
 (.seq
  (.region 0 ([⟨(some 5), .mov (.c (.int .i64 0)), none, 0, []⟩]))
  (.block 0
   (.loop tithingref25_GetRights_l0)))
 (.seq
 (.seq
  (.many 0 ([⟨(some 58), .loadN 6 (.t 4), none, 0, []⟩] ++
     (⟨(some 59), .callF 12 [(.t 58)], none, 1, []⟩ ::
     ([⟨(some 60), .un .not (.t 59), none, 2, []⟩]))))
  (.cond (.t 60)
   (.seq
    (.region 0 ([⟨(some 61), .build [(.int .i64 0), (.int .i64 0), (.int .i64 0), (.int .i64 0), (.int .i64 0), (.bool false)] [], none, 0, []⟩,
        ⟨none, .store 6 (.t 2) (.t 61), none, 1, []⟩,
        ⟨(some 3), .mov (.c (.int .i64 3)), none, 2, []⟩]))
    (.ret))
   (.skip)))
 (.seq
 (.region 0 ([⟨(some 62), .loadN 6 (.t 4), none, 0, []⟩,
     ⟨none, .store 6 (.t 2) (.t 62), none, 1, []⟩,
     ⟨(some 3), .mov (.c (.int .i64 0)), none, 2, []⟩]))
 (.ret))))))),
 [.cell 2 true 6, .tmp 3]⟩
def octet_Put_l0 : CCode :=
 (.seq
 (.seq
  (.region 0 ([⟨(some 24), .mov (.t 7), none, 0, []⟩,
      ⟨(some 25), .bin .geq (.t 24) (.c (.int .i64 0)), none, 1, []⟩]))
  (.cond (.t 25)
   (.skip)
   (.exit 0)))
 (.seq
 (.block 1
   (.region 9 ([⟨(some 28), .mov (.t 6), none, 0, []⟩,
       ⟨(some 29), .mov (.t 1), none, 1, []⟩,
       ⟨(some 30), .mov (.t 7), none, 2, []⟩,
       ⟨(some 31), .bin .mul (.c (.int .i64 8)) (.t 30), none, 3, []⟩,
       ⟨(some 32), .bin .shr (.t 29) (.t 31), none, 4, []⟩,
       ⟨(some 33), .convI .u8 (.t 32), none, 5, []⟩,
       ⟨(some 34), .buildSlice 5 1 [(.int .u8 0)] [(0, 1, (.t 33))], none, 6, []⟩,
       ⟨(some 35), .append 5 1 1 (.t 28) (.t 34), none, 7, []⟩,
       ⟨(some 6), .mov (.t 35), none, 8, []⟩])))
 (.region 0 ([⟨(some 26), .mov (.t 7), none, 0, []⟩,
    ⟨(some 27), .bin .sub (.t 26) (.c (.int .i64 1)), none, 1, []⟩,
    ⟨(some 7), .mov (.t 27), none, 2, []⟩]))))
/-- 9 -/
def octet_Put : CFunc := ⟨37,
 (.seq
 (.region 0 ([⟨(some 4), .mov (.c (.slice none 0 0)), none, 0, []⟩,
     ⟨(some 5), .mov (.c (.int .i64 0)), none, 1, []⟩]))
 (.seq
 (.seq
  (.many 0 ([⟨(some 8), .mov (.t 0), none, 0, []⟩] ++
     (⟨(some 9), .callF 19 [(.t 8)], none, 1, []⟩ ::
     ([⟨(some 10), .un .not (.t 9), none, 2, []⟩,
      ⟨(some 11), .mov (.t 10), none, 3, []⟩,
      ⟨(some 12), .mov (.t 1), (some ((some 11), false)), 4, []⟩,
      ⟨(some 13), .bin .lss (.t 12) (.c (.int .i64 0)), (some ((some 11), false)), 5, []⟩,
      ⟨(some 14), .pick (.t 11) (.c (.bool true)) (.t 13), none, 6, []⟩,
      ⟨(some 15), .mov (.t 14), none, 7, []⟩,
      ⟨(some 16), .mov (.t 1), (some ((some 15), false)), 8, []⟩,
      ⟨(some 17), .mov (.t 0), (some ((some 15), false)), 9, []⟩,
      ⟨(some 18), .bin .mul (.c (.int .i64 8)) (.t 17), (some ((some 15), false)), 10, []⟩,
      ⟨(some 19), .bin .shl (.c (.int .i64 1)) (.t 18), (some ((some 15), false)), 11, []⟩,
      ⟨(some 20), .bin .geq (.t 16) (.t 19), (some ((some 15), false)), 12, []⟩,
      ⟨(some 21), .pick (.t 15) (.c (.bool true)) (.t 20), none, 13, []⟩]))))
  (.cond (.t 21)
   (.seq
    (.region 0 ([⟨(some 4), .mov (.c (.slice none 0 0)), none, 0, []⟩,
        ⟨(some 5), .mov (.c (.int .i64 2)), none, 1, []⟩]))
    (.ret))
   (.skip)))
 (.seq
 (.region 0 ([⟨(some 6), .mov (.c (.slice none 0 0)), none, 0, []⟩]))
 (.seq
 (.seq
  (.region 0 ([⟨(some 22), .mov (.t 0), none, 0, []⟩,
      ⟨(some 23), .bin .sub (.t 22) (.c (.int .i64 1)), none, 1, []⟩,
      ⟨(some 7), .mov (.t 23), none, 2, []⟩]))
  (.block 0
   (.loop octet_Put_l0)))
 (.seq
 (.region 0 ([⟨(some 36), .mov (.t 6), none, 0, []⟩,
     ⟨(some 4), .mov (.t 36), none, 1, []⟩,
     ⟨(some 5), .mov (.c (.int .i64 0)), none, 2, []⟩]))
 (.ret)))))),
 [.tmp 4, .tmp 5]⟩
/-- 10 -/
def rights_Valid : CFunc := ⟨26,
 (.seq
 (.region 2 ([⟨(some 1), .box 23 (.t 0), none, 0, []⟩,
     ⟨(some 2), .mov (.c (.bool false)), none, 1, []⟩]))
 (.seq
 (.many 0 ([⟨(some 3), .faddr 0 (.t 1), none, 0, []⟩,
     ⟨(some 4), .load1 (.t 3), none, 1, []⟩,
     ⟨(some 5), .bin .geq (.t 4) (.c (.int .i64 0)), none, 2, []⟩,
     ⟨(some 6), .mov (.t 5), none, 3, []⟩,
     ⟨(some 7), .faddr 1 (.t 1), (some ((some 6), true)), 4, []⟩,
     ⟨(some 8), .load1 (.t 7), (some ((some 6), true)), 5, []⟩,
     ⟨(some 9), .bin .geq (.t 8) (.c (.int .i64 0)), (some ((some 6), true)), 6, []⟩,
     ⟨(some 10), .pick (.t 6) (.t 9) (.c (.bool false)), none, 7, []⟩,
     ⟨(some 11), .mov (.t 10), none, 8, []⟩,
     ⟨(some 12), .faddr 2 (.t 1), (some ((some 11), true)), 9, []⟩,
     ⟨(some 13), .load1 (.t 12), (some ((some 11), true)), 10, []⟩] ++
    (⟨(some 14), .callF 20 [(.t 13), (.c (.int .i64 0)), (.c (.int .i64 7))], (some ((some 11), true)), 11, []⟩ ::
    ([⟨(some 15), .pick (.t 11) (.t 14) (.c (.bool false)), none, 12, []⟩,
     ⟨(some 16), .mov (.t 15), none, 13, []⟩,
     ⟨(some 17), .faddr 3 (.t 1), (some ((some 16), true)), 14, []⟩,
     ⟨(some 18), .load1 (.t 17), (some ((some 16), true)), 15, []⟩] ++
    (⟨(some 19), .callF 20 [(.t 18), (.c (.int .i64 0)), (.c (.int .i64 7))], (some ((some 16), true)), 16, []⟩ ::
    ([⟨(some 20), .pick (.t 16) (.t 19) (.c (.bool false)), none, 17, []⟩,
     ⟨(some 21), .mov (.t 20), none, 18, []⟩,
     ⟨(some 22), .faddr 4 (.t 1), (some ((some 21), true)), 19, []⟩,
     ⟨(some 23), .load1 (.t 22), (some ((some 21), true)), 20, []⟩] ++
    (⟨(some 24), .callF 20 [(.t 23), (.c (.int .i64 0)), (.c (.int .i64 7))], (some ((some 21), true)), 21, []⟩ ::
    ([⟨(some 25), .pick (.t 21) (.t 24) (.c (.bool false)), none, 22, []⟩,
     ⟨(some 2), .mov (.t 25), none, 23, []⟩]))))))))
 (.ret))),
 [.tmp 2]⟩
def slices_Concat_byte_byte_l0 : CCode :=
 (.seq
 (.region 0 ([⟨(some 12), .bin .lss (.t 11) (.t 10), none, 0, []⟩]))
 (.seq
 (.cond (.t 12)
   (.skip)
   (.exit 0))
 (.seq
 (.block 1
   (.seq
    (.region 0 ([⟨(some 13), .iaddrV 1 (.t 9) (.t 11), none, 0, []⟩,
        ⟨(some 14), .load1 (.t 13), none, 1, []⟩,
        ⟨(some 5), .mov (.t 14), none, 2, []⟩]))
    (.seq
    (.region 0 ([⟨(some 15), .mov (.t 3), none, 0, []⟩,
        ⟨(some 16), .mov (.t 5), none, 1, []⟩,
        ⟨(some 17), .lenV (.t 16), none, 2, []⟩,
        ⟨(some 18), .bin .add (.t 15) (.t 17), none, 3, []⟩,
        ⟨(some 3), .mov (.t 18), none, 4, []⟩]))
    (.seq
    (.region 0 ([⟨(some 19), .mov (.t 3), none, 0, []⟩,
        ⟨(some 20), .bin .lss (.t 19) (.c (.int .i64 0)), none, 1, []⟩]))
    (.cond (.t 20)
     (.no)
     (.skip))))))
 (.region 0 ([⟨(some 22), .bin .add (.t 11) (.c (.int .i64 1)), none, 0, []⟩,
    ⟨(some 11), .mov (.t 22), none, 1, []⟩])))))
def slices_Concat_byte_byte_l1 : CCode :=
 (.seq
 (.region 0 ([⟨(some 28), .bin .lss (.t 27) (.t 26), none, 0, []⟩]))
 (.seq
 (.cond (.t 28)
   (.skip)
   (.exit 2))
 (.seq
 (.block 3
   (.seq
    (.region 0 ([⟨(some 29), .iaddrV 1 (.t 25) (.t 27), none, 0, []⟩,
        ⟨(some 30), .load1 (.t 29), none, 1, []⟩,
        ⟨(some 8), .mov (.t 30), none, 2, []⟩]))
    (.region 0 ([⟨(some 31), .mov (.t 6), none, 0, []⟩,
       ⟨(some 32), .mov (.t 8), none, 1, []⟩,
       ⟨(some 33), .append 5 1 1 (.t 31) (.t 32), none, 2, []⟩,
       ⟨(some 6), .mov (.t 33), none, 3, []⟩]))))
 (.region 0 ([⟨(some 34), .bin .add (.t 27) (.c (.int .i64 1)), none, 0, []⟩,
    ⟨(some 27), .mov (.t 34), none, 1, []⟩])))))
/-- 11 -/
def slices_Concat_byte_byte : CFunc := ⟨36,
 (.seq
 (.region 0 ([⟨(some 2), .mov (.c (.slice none 0 0)), none, 0, []⟩]))
 (.seq
 (.region 0 ([⟨(some 3), .mov (.c (.int .i64 0)), none, 0, []⟩]))
 (.seq
 (.seq
  (.region 0 ([⟨(some 9), .mov (.t 0), none, 0, []⟩,
      ⟨(some 10), .lenV (.t 9), none, 1, []⟩,
      ⟨(some 11), .mov (.c (.int .i64 0)), none, 2, []⟩]))
  (.block 0
   (.loop slices_Concat_byte_byte_l0)))
 (.seq
 (.many 0 ([⟨(some 23), .mov (.t 3), none, 0, []⟩] ++
    (⟨(some 24), .callF 21 [(.c (.slice none 0 0)), (.t 23)], none, 1, []⟩ ::
    ([⟨(some 6), .mov (.t 24), none, 2, []⟩]))))
 (.seq
 (.seq
  (.region 0 ([⟨(some 25), .mov (.t 0), none, 0, []⟩,
      ⟨(some 26), .lenV (.t 25), none, 1, []⟩,
      ⟨(some 27), .mov (.c (.int .i64 0)), none, 2, []⟩]))
  (.block 2
   (.loop slices_Concat_byte_byte_l1)))
 (.seq
 (.region 0 ([⟨(some 35), .mov (.t 6), none, 0, []⟩,
     ⟨(some 2), .mov (.t 35), none, 1, []⟩]))
 (.ret))))))),
 [.tmp 2]⟩
/-- 12 -/
def tithingref21_Valid : CFunc := ⟨26,
 (.seq
 (.region 2 ([⟨(some 1), .box 23 (.t 0), none, 0, []⟩,
     ⟨(some 2), .mov (.c (.bool false)), none, 1, []⟩]))
 (.seq
 (.many 0 ([⟨(some 3), .faddr 0 (.t 1), none, 0, []⟩,
     ⟨(some 4), .load1 (.t 3), none, 1, []⟩,
     ⟨(some 5), .bin .geq (.t 4) (.c (.int .i64 0)), none, 2, []⟩,
     ⟨(some 6), .mov (.t 5), none, 3, []⟩,
     ⟨(some 7), .faddr 1 (.t 1), (some ((some 6), true)), 4, []⟩,
     ⟨(some 8), .load1 (.t 7), (some ((some 6), true)), 5, []⟩,
     ⟨(some 9), .bin .geq (.t 8) (.c (.int .i64 0)), (some ((some 6), true)), 6, []⟩,
     ⟨(some 10), .pick (.t 6) (.t 9) (.c (.bool false)), none, 7, []⟩,
     ⟨(some 11), .mov (.t 10), none, 8, []⟩,
     ⟨(some 12), .faddr 2 (.t 1), (some ((some 11), true)), 9, []⟩,
     ⟨(some 13), .load1 (.t 12), (some ((some 11), true)), 10, []⟩] ++
    (⟨(some 14), .callF 22 [(.t 13)], (some ((some 11), true)), 11, []⟩ ::
    ([⟨(some 15), .pick (.t 11) (.t 14) (.c (.bool false)), none, 12, []⟩,
     ⟨(some 16), .mov (.t 15), none, 13, []⟩,
     ⟨(some 17), .faddr 3 (.t 1), (some ((some 16), true)), 14, []⟩,
     ⟨(some 18), .load1 (.t 17), (some ((some 16), true)), 15, []⟩] ++
    (⟨(some 19), .callF 22 [(.t 18)], (some ((some 16), true)), 16, []⟩ ::
    ([⟨(some 20), .pick (.t 16) (.t 19) (.c (.bool false)), none, 17, []⟩,
     ⟨(some 21), .mov (.t 20), none, 18, []⟩,
     ⟨(some 22), .faddr 4 (.t 1), (some ((some 21), true)), 19, []⟩,
     ⟨(some 23), .load1 (.t 22), (some ((some 21), true)), 20, []⟩] ++
    (⟨(some 24), .callF 22 [(.t 23)], (some ((some 21), true)), 21, []⟩ ::
    ([⟨(some 25), .pick (.t 21) (.t 24) (.c (.bool false)), none, 22, []⟩,
     ⟨(some 2), .mov (.t 25), none, 23, []⟩]))))))))
 (.ret))),
 [.tmp 2]⟩
/-- 13 -/
def tithingref25_four : CFunc := ⟨15,
 (.seq
 (.region 0 ([⟨(some 2), .mov (.c (.slice none 0 0)), none, 0, []⟩]))
 (.seq
 (.region 13 ([⟨(some 3), .mov (.t 0), none, 0, []⟩,
     ⟨(some 4), .bin .shr (.t 3) (.c (.int .u64 24)), none, 1, []⟩,
     ⟨(some 5), .convI .u8 (.t 4), none, 2, []⟩,
     ⟨(some 6), .mov (.t 0), none, 3, []⟩,
     ⟨(some 7), .bin .shr (.t 6) (.c (.int .u64 16)), none, 4, []⟩,
     ⟨(some 8), .convI .u8 (.t 7), none, 5, []⟩,
     ⟨(some 9), .mov (.t 0), none, 6, []⟩,
     ⟨(some 10), .bin .shr (.t 9) (.c (.int .u64 8)), none, 7, []⟩,
     ⟨(some 11), .convI .u8 (.t 10), none, 8, []⟩,
     ⟨(some 12), .mov (.t 0), none, 9, []⟩,
     ⟨(some 13), .convI .u8 (.t 12), none, 10, []⟩,
     ⟨(some 14), .buildSlice 5 4 [(.int .u8 0), (.int .u8 0), (.int .u8 0), (.int .u8 0)] [(0, 1, (.t 5)), (1, 1, (.t 8)), (2, 1, (.t 11)), (3, 1, (.t 13))], none, 11, []⟩,
     ⟨(some 2), .mov (.t 14), none, 12, []⟩]))
 (.ret))),
 [.tmp 2]⟩
def octet_Get_l0 : CCode :=
 (.seq
 (.region 0 ([⟨(some 40), .bin .lss (.t 39) (.t 38), none, 0, []⟩]))
 (.seq
 (.cond (.t 40)
   (.skip)
   (.exit 1))
 (.seq
 (.block 2
   (.seq
    (.region 0 ([⟨(some 41), .iaddrV 1 (.t 37) (.t 39), none, 0, []⟩,
        ⟨(some 42), .load1 (.t 41), none, 1, []⟩,
        ⟨(some 10), .mov (.t 42), none, 2, []⟩]))
    (.region 0 ([⟨(some 43), .mov (.t 6), none, 0, []⟩,
       ⟨(some 44), .bin .shl (.t 43) (.c (.int .u64 8)), none, 1, []⟩,
       ⟨(some 45), .mov (.t 10), none, 2, []⟩,
       ⟨(some 46), .convI .i64 (.t 45), none, 3, []⟩,
       ⟨(some 47), .bin .or (.t 44) (.t 46), none, 4, []⟩,
       ⟨(some 6), .mov (.t 47), none, 5, []⟩]))))
 (.region 0 ([⟨(some 48), .bin .add (.t 39) (.c (.int .i64 1)), none, 0, []⟩,
    ⟨(some 39), .mov (.t 48), none, 1, []⟩])))))
/-- 14 -/
def octet_Get : CFunc := ⟨53,
 (.seq
 (.region 0 ([⟨(some 6), .mov (.c (.int .i64 0)), none, 0, []⟩,
     ⟨(some 7), .mov (.c (.int .i64 0)), none, 1, []⟩,
     ⟨(some 8), .mov (.c (.int .i64 0)), none, 2, []⟩]))
 (.seq
 (.block 0
   (.seq
    (.many 0 ([⟨(some 12), .mov (.t 2), none, 0, []⟩] ++
       (⟨(some 13), .callF 19 [(.t 12)], none, 1, []⟩ ::
       ([⟨(some 14), .un .not (.t 13), none, 2, []⟩,
        ⟨(some 15), .mov (.t 14), none, 3, []⟩,
        ⟨(some 16), .mov (.t 1), (some ((some 15), false)), 4, []⟩,
        ⟨(some 17), .bin .lss (.t 16) (.c (.int .i64 0)), (some ((some 15), false)), 5, []⟩,
        ⟨(some 18), .pick (.t 15) (.c (.bool true)) (.t 17), none, 6, []⟩,
        ⟨(some 19), .mov (.t 18), none, 7, []⟩,
        ⟨(some 20), .mov (.t 1), (some ((some 19), false)), 8, []⟩,
        ⟨(some 21), .mov (.t 0), (some ((some 19), false)), 9, []⟩,
        ⟨(some 22), .lenV (.t 21), (some ((some 19), false)), 10, []⟩,
        ⟨(some 23), .bin .gtr (.t 20) (.t 22), (some ((some 19), false)), 11, []⟩,
        ⟨(some 24), .pick (.t 19) (.c (.bool true)) (.t 23), none, 12, []⟩,
        ⟨(some 11), .mov (.t 24), none, 13, []⟩]))))
    (.cond (.t 11)
     (.seq
      (.region 0 ([⟨(some 6), .mov (.c (.int .i64 0)), none, 0, []⟩,
          ⟨(some 7), .mov (.c (.int .i64 0)), none, 1, []⟩,
          ⟨(some 8), .mov (.c (.int .i64 2)), none, 2, []⟩]))
      (.ret))
     (.seq
      (.region 0 ([⟨(some 26), .mov (.t 0), none, 0, []⟩,
          ⟨(some 27), .lenV (.t 26), none, 1, []⟩,
          ⟨(some 28), .mov (.t 1), none, 2, []⟩,
          ⟨(some 29), .bin .sub (.t 27) (.t 28), none, 3, []⟩,
          ⟨(some 30), .mov (.t 2), none, 4, []⟩,
          ⟨(some 31), .bin .lss (.t 29) (.t 30), none, 5, []⟩,
          ⟨(some 25), .mov (.t 31), none, 6, []⟩]))
      (.cond (.t 25)
       (.seq
        (.region 0 ([⟨(some 6), .mov (.c (.int .i64 0)), none, 0, []⟩,
            ⟨(some 7), .mov (.c (.int .i64 0)), none, 1, []⟩,
            ⟨(some 8), .mov (.c (.int .i64 6)), none, 2, []⟩]))
        (.ret))
       (.skip))))))
 (.seq
 (.seq
  (.region 0 ([⟨(some 32), .mov (.t 0), none, 0, []⟩,
      ⟨(some 33), .mov (.t 1), none, 1, []⟩,
      ⟨(some 34), .mov (.t 1), none, 2, []⟩,
      ⟨(some 35), .mov (.t 2), none, 3, []⟩,
      ⟨(some 36), .bin .add (.t 34) (.t 35), none, 4, []⟩,
      ⟨(some 37), .sliceV 1 (.t 32) (some (.t 33)) (some (.t 36)) none, none, 5, []⟩,
      ⟨(some 38), .lenV (.t 37), none, 6, []⟩,
      ⟨(some 39), .mov (.c (.int .i64 0)), none, 7, []⟩]))
  (.block 1
   (.loop octet_Get_l0)))
 (.seq
 (.region 0 ([⟨(some 49), .mov (.t 6), none, 0, []⟩,
     ⟨(some 50), .mov (.t 1), none, 1, []⟩,
     ⟨(some 51), .mov (.t 2), none, 2, []⟩,
     ⟨(some 52), .bin .add (.t 50) (.t 51), none, 3, []⟩,
     ⟨(some 6), .mov (.t 49), none, 4, []⟩,
     ⟨(some 7), .mov (.t 52), none, 5, []⟩,
     ⟨(some 8), .mov (.c (.int .i64 0)), none, 6, []⟩]))
 (.ret))))),
 [.tmp 6, .tmp 7, .tmp 8]⟩
/-- 19 -/
def octet_isWidth : CFunc := ⟨13,
 (.seq
 (.region 0 ([⟨(some 2), .mov (.c (.bool false)), none, 0, []⟩]))
 (.seq
 (.region 0 ([⟨(some 3), .mov (.t 0), none, 0, []⟩,
     ⟨(some 4), .bin .eql (.t 3) (.c (.int .i64 1)), none, 1, []⟩,
     ⟨(some 5), .mov (.t 4), none, 2, []⟩,
     ⟨(some 6), .mov (.t 0), (some ((some 5), false)), 3, []⟩,
     ⟨(some 7), .bin .eql (.t 6) (.c (.int .i64 2)), (some ((some 5), false)), 4, []⟩,
     ⟨(some 8), .pick (.t 5) (.c (.bool true)) (.t 7), none, 5, []⟩,
     ⟨(some 9), .mov (.t 8), none, 6, []⟩,
     ⟨(some 10), .mov (.t 0), (some ((some 9), false)), 7, []⟩,
     ⟨(some 11), .bin .eql (.t 10) (.c (.int .i64 4)), (some ((some 9), false)), 8, []⟩,
     ⟨(some 12), .pick (.t 9) (.c (.bool true)) (.t 11), none, 9, []⟩,
     ⟨(some 2), .mov (.t 12), none, 10, []⟩]))
 (.ret))),
 [.tmp 2]⟩
/-- 20 -/
def rights_within : CFunc := ⟨15,
 (.seq
 (.region 0 ([⟨(some 6), .mov (.c (.bool false)), none, 0, []⟩]))
 (.seq
 (.region 0 ([⟨(some 7), .mov (.t 0), none, 0, []⟩,
     ⟨(some 8), .mov (.t 1), none, 1, []⟩,
     ⟨(some 9), .bin .geq (.t 7) (.t 8), none, 2, []⟩,
     ⟨(some 10), .mov (.t 9), none, 3, []⟩,
     ⟨(some 11), .mov (.t 0), (some ((some 10), true)), 4, []⟩,
     ⟨(some 12), .mov (.t 2), (some ((some 10), true)), 5, []⟩,
     ⟨(some 13), .bin .leq (.t 11) (.t 12), (some ((some 10), true)), 6, []⟩,
     ⟨(some 14), .pick (.t 10) (.t 13) (.c (.bool false)), none, 7, []⟩,
     ⟨(some 6), .mov (.t 14), none, 8, []⟩]))
 (.ret))),
 [.tmp 6]⟩
/-- 21 -/
def slices_Grow_byte_byte : CFunc := ⟨27,
 (.seq
 (.region 0 ([⟨(some 4), .mov (.c (.slice none 0 0)), none, 0, []⟩]))
 (.seq
 (.seq
  (.region 0 ([⟨(some 5), .mov (.t 1), none, 0, []⟩,
      ⟨(some 6), .bin .lss (.t 5) (.c (.int .i64 0)), none, 1, []⟩]))
  (.cond (.t 6)
   (.no)
   (.skip)))
 (.seq
 (.seq
  (.region 0 ([⟨(some 8), .mov (.t 1), none, 0, []⟩,
      ⟨(some 9), .mov (.t 0), none, 1, []⟩,
      ⟨(some 10), .capV (.t 9), none, 2, []⟩,
      ⟨(some 11), .mov (.t 0), none, 3, []⟩,
      ⟨(some 12), .lenV (.t 11), none, 4, []⟩,
      ⟨(some 13), .bin .sub (.t 10) (.t 12), none, 5, []⟩,
      ⟨(some 14), .bin .sub (.t 8) (.t 13), none, 6, []⟩,
      ⟨(some 1), .mov (.t 14), none, 7, []⟩]))
  (.seq
  (.region 0 ([⟨(some 15), .mov (.t 1), none, 0, []⟩,
      ⟨(some 16), .bin .gtr (.t 15) (.c (.int .i64 0)), none, 1, []⟩]))
  (.cond (.t 16)
   (.region 0 ([⟨(some 17), .mov (.t 0), none, 0, []⟩,
       ⟨(some 18), .mov (.t 0), none, 1, []⟩,
       ⟨(some 19), .capV (.t 18), none, 2, []⟩,
       ⟨(some 20), .sliceV 1 (.t 17) none (some (.t 19)) none, none, 3, []⟩,
       ⟨(some 21), .mov (.t 1), none, 4, []⟩,
       ⟨(some 22), .appendZ 5 1 1 [(.int .u8 0)] (.t 20) (.t 21), none, 5, []⟩,
       ⟨(some 23), .mov (.t 0), none, 6, []⟩,
       ⟨(some 24), .lenV (.t 23), none, 7, []⟩,
       ⟨(some 25), .sliceV 1 (.t 22) none (some (.t 24)) none, none, 8, []⟩,
       ⟨(some 0), .mov (.t 25), none, 9, []⟩]))
   (.skip))))
 (.seq
 (.region 0 ([⟨(some 26), .mov (.t 0), none, 0, []⟩,
     ⟨(some 4), .mov (.t 26), none, 1, []⟩]))
 (.ret))))),
 [.tmp 4]⟩
/-- 22 -/
def tithingref21_bits : CFunc := ⟨9,
 (.seq
 (.region 0 ([⟨(some 2), .mov (.c (.bool false)), none, 0, []⟩]))
 (.seq
 (.region 0 ([⟨(some 3), .mov (.t 0), none, 0, []⟩,
     ⟨(some 4), .bin .geq (.t 3) (.c (.int .i64 0)), none, 1, []⟩,
     ⟨(some 5), .mov (.t 4), none, 2, []⟩,
     ⟨(some 6), .mov (.t 0), (some ((some 5), true)), 3, []⟩,
     ⟨(some 7), .bin .leq (.t 6) (.c (.int .i64 7)), (some ((some 5), true)), 4, []⟩,
     ⟨(some 8), .pick (.t 5) (.t 7) (.c (.bool false)), none, 5, []⟩,
     ⟨(some 2), .mov (.t 8), none, 6, []⟩]))
 (.ret))),
 [.tmp 2]⟩
end Code
/-- The functions stand where they are said to stand. -/
structure Codes (E : Env) : Prop where
  tithinglaw25_ServerRights : Has E 3 Code.tithinglaw25_ServerRights
  server_PutRights : Has E 4 Code.server_PutRights
  tithingref25_PutRights : Has E 5 Code.tithingref25_PutRights
  server_GetRights : Has E 6 Code.server_GetRights
  tithingref25_GetRights : Has E 7 Code.tithingref25_GetRights
  octet_Put : Has E 9 Code.octet_Put
  rights_Valid : Has E 10 Code.rights_Valid
  slices_Concat_byte_byte : Has E 11 Code.slices_Concat_byte_byte
  tithingref21_Valid : Has E 12 Code.tithingref21_Valid
  tithingref25_four : Has E 13 Code.tithingref25_four
  octet_Get : Has E 14 Code.octet_Get
  octet_isWidth : Has E 19 Code.octet_isWidth
  rights_within : Has E 20 Code.rights_within
  slices_Grow_byte_byte : Has E 21 Code.slices_Grow_byte_byte
  tithingref21_bits : Has E 22 Code.tithingref21_bits

end Go.Ev
