/-
  The code of functions as the machine has it, by name; their numbers.
-/
import Derived.Test.YtoinadgkjnbejaaDoorEvPart2
set_option linter.unusedVariables false
namespace Go.Ev
namespace Code
def tithinglaw14_PageNames : CFunc := ⟨55,
 (.seq
 (.region 0 ([⟨(some 2), .mov (.c (.bool false)), none, 0, []⟩]))
 (.seq
 (.seq
  (.many 0 ([⟨(some 11), .mov (.t 0), none, 0, []⟩] ++
     (⟨(some 12), .callF 6 [(.t 11)], none, 1, []⟩ ::
     ([]))))
  (.cond (.t 12)
   (.seq
    (.many 0 (⟨(some 13), .callF 7 [], none, 0, []⟩ ::
       ([⟨(some 2), .mov (.t 13), none, 1, []⟩])))
    (.ret))
   (.skip)))
 (.seq
 (.many 0 ([⟨(some 15), .mov (.t 0), none, 0, []⟩] ++
    (⟨(some 16), .callF 15 [(.t 15)], none, 1, []⟩ ::
    ([⟨(some 14), .mov (.t 16), none, 2, []⟩,
     ⟨(some 17), .extract (.t 14) 0, none, 3, []⟩,
     ⟨(some 18), .extract (.t 14) 1, none, 4, []⟩,
     ⟨(some 3), .mov (.t 17), none, 5, []⟩,
     ⟨(some 4), .mov (.t 18), none, 6, []⟩]))))
 (.seq
 (.many 0 ([⟨(some 20), .mov (.t 0), none, 0, []⟩] ++
    (⟨(some 21), .callF 16 [(.t 20)], none, 1, []⟩ ::
    ([⟨(some 19), .mov (.t 21), none, 2, []⟩,
     ⟨(some 22), .extract (.t 19) 0, none, 3, []⟩,
     ⟨(some 23), .extract (.t 19) 1, none, 4, []⟩,
     ⟨(some 5), .mov (.t 22), none, 5, []⟩,
     ⟨(some 6), .mov (.t 23), none, 6, []⟩]))))
 (.seq
 (.many 0 ([⟨(some 25), .mov (.t 0), none, 0, []⟩] ++
    (⟨(some 26), .callF 17 [(.t 25)], none, 1, []⟩ ::
    ([⟨(some 24), .mov (.t 26), none, 2, []⟩,
     ⟨(some 27), .extract (.t 24) 0, none, 3, []⟩,
     ⟨(some 28), .extract (.t 24) 1, none, 4, []⟩,
     ⟨(some 7), .mov (.t 27), none, 5, []⟩,
     ⟨(some 8), .mov (.t 28), none, 6, []⟩]))))
 (.seq
 (.many 0 ([⟨(some 30), .mov (.t 0), none, 0, []⟩] ++
    (⟨(some 31), .callF 18 [(.t 30)], none, 1, []⟩ ::
    ([⟨(some 29), .mov (.t 31), none, 2, []⟩,
     ⟨(some 32), .extract (.t 29) 0, none, 3, []⟩,
     ⟨(some 33), .extract (.t 29) 1, none, 4, []⟩,
     ⟨(some 9), .mov (.t 32), none, 5, []⟩,
     ⟨(some 10), .mov (.t 33), none, 6, []⟩]))))
 (.seq
 (.many 0 ([⟨(some 34), .mov (.t 3), none, 0, []⟩,
     ⟨(some 35), .mov (.t 5), none, 1, []⟩] ++
    (⟨(some 36), .callF 19 [(.t 34), (.t 35)], none, 2, []⟩ ::
    ([⟨(some 37), .mov (.t 36), none, 3, []⟩,
     ⟨(some 38), .mov (.t 4), (some ((some 37), true)), 4, []⟩,
     ⟨(some 39), .mov (.t 6), (some ((some 37), true)), 5, []⟩,
     ⟨(some 40), .bin .eql (.t 38) (.t 39), (some ((some 37), true)), 6, []⟩,
     ⟨(some 41), .pick (.t 37) (.t 40) (.c (.bool false)), none, 7, []⟩,
     ⟨(some 42), .mov (.t 41), none, 8, []⟩,
     ⟨(some 43), .mov (.t 7), (some ((some 42), true)), 9, []⟩,
     ⟨(some 44), .mov (.t 9), (some ((some 42), true)), 10, []⟩] ++
    (⟨(some 45), .callF 19 [(.t 43), (.t 44)], (some ((some 42), true)), 11, []⟩ ::
    ([⟨(some 46), .pick (.t 42) (.t 45) (.c (.bool false)), none, 12, []⟩,
     ⟨(some 47), .mov (.t 46), none, 13, []⟩,
     ⟨(some 48), .mov (.t 8), (some ((some 47), true)), 14, []⟩,
     ⟨(some 49), .mov (.t 10), (some ((some 47), true)), 15, []⟩,
     ⟨(some 50), .bin .eql (.t 48) (.t 49), (some ((some 47), true)), 16, []⟩,
     ⟨(some 51), .pick (.t 47) (.t 50) (.c (.bool false)), none, 17, []⟩,
     ⟨(some 52), .mov (.t 51), none, 18, []⟩] ++
    (⟨(some 53), .callF 7 [], (some ((some 52), true)), 19, []⟩ ::
    ([⟨(some 54), .pick (.t 52) (.t 53) (.c (.bool false)), none, 20, []⟩,
     ⟨(some 2), .mov (.t 54), none, 21, []⟩]))))))))
 (.ret)))))))),
 [.tmp 2]⟩
def tithinglaw14_long : CFunc := ⟨6,
 (.seq
 (.region 0 ([⟨(some 2), .mov (.c (.bool false)), none, 0, []⟩]))
 (.seq
 (.region 0 ([⟨(some 3), .mov (.t 0), none, 0, []⟩,
     ⟨(some 4), .lenS (.t 3), none, 1, []⟩,
     ⟨(some 5), .bin .gtr (.t 4) (.c (.int .i64 30000)), none, 2, []⟩,
     ⟨(some 2), .mov (.t 5), none, 3, []⟩]))
 (.ret))),
 [.tmp 2]⟩
def tithinglaw14_Awake : CFunc := ⟨13,
 (.seq
 (.region 0 ([⟨(some 0), .mov (.c (.bool false)), none, 0, []⟩]))
 (.seq
 (.many 0 (⟨(some 4), .callF 13 [(.c (.string ⟨⟨[37, 33, 68, 111, 99, 10, 37, 37, 69, 110, 100, 72, 101, 97, 100, 101, 114, 10, 37, 37, 80, 97, 103, 101, 58, 32, 49, 10, 120, 10, 37, 37, 84, 114, 97, 105, 108, 101, 114, 10, 37, 37, 69, 79, 70, 10]⟩⟩))], none, 0, []⟩ ::
    ([⟨(some 3), .mov (.t 4), none, 1, []⟩,
     ⟨(some 5), .extract (.t 3) 0, none, 2, []⟩,
     ⟨(some 6), .extract (.t 3) 1, none, 3, []⟩,
     ⟨(some 1), .mov (.t 5), none, 4, []⟩,
     ⟨(some 2), .mov (.t 6), none, 5, []⟩])))
 (.seq
 (.region 0 ([⟨(some 7), .mov (.t 1), none, 0, []⟩,
     ⟨(some 8), .bin .eql (.t 7) (.c (.int .i64 1)), none, 1, []⟩,
     ⟨(some 9), .mov (.t 8), none, 2, []⟩,
     ⟨(some 10), .mov (.t 2), (some ((some 9), true)), 3, []⟩,
     ⟨(some 11), .bin .eql (.t 10) (.c (.int .i64 0)), (some ((some 9), true)), 4, []⟩,
     ⟨(some 12), .pick (.t 9) (.t 11) (.c (.bool false)), none, 5, []⟩,
     ⟨(some 0), .mov (.t 12), none, 6, []⟩]))
 (.ret)))),
 [.tmp 0]⟩
def page_Parse : CFunc := ⟨16,
 (.seq
 (.region 2 ([⟨(some 2), .alloc 27 [(.string ⟨⟨[]⟩⟩), (.slice none 0 0), (.slice none 0 0), (.slice none 0 0), (.slice none 0 0)], none, 0, []⟩,
     ⟨(some 3), .mov (.c (.int .i64 0)), none, 1, []⟩]))
 (.seq
 (.many 8 ([⟨(some 7), .mov (.t 0), none, 0, []⟩] ++
    (⟨(some 8), .callF 24 [(.t 7)], none, 1, []⟩ ::
    ([⟨(some 6), .mov (.t 8), none, 2, []⟩,
     ⟨(some 9), .extract (.t 6) 0, none, 3, []⟩,
     ⟨(some 10), .extract (.t 6) 1, none, 4, []⟩,
     ⟨(some 4), .alloc 27 [(.string ⟨⟨[]⟩⟩), (.slice none 0 0), (.slice none 0 0), (.slice none 0 0), (.slice none 0 0)], none, 5, []⟩,
     ⟨none, .store 5 (.t 4) (.t 9), none, 6, []⟩,
     ⟨(some 5), .mov (.t 10), none, 7, []⟩]))))
 (.seq
 (.seq
  (.region 0 ([⟨(some 11), .mov (.t 5), none, 0, []⟩,
      ⟨(some 12), .un .not (.t 11), none, 1, []⟩]))
  (.cond (.t 12)
   (.seq
    (.region 0 ([⟨(some 13), .build [(.string ⟨⟨[]⟩⟩), (.slice none 0 0), (.slice none 0 0), (.slice none 0 0), (.slice none 0 0)] [], none, 0, []⟩,
        ⟨none, .store 5 (.t 2) (.t 13), none, 1, []⟩,
        ⟨(some 3), .mov (.c (.int .i64 3)), none, 2, []⟩]))
    (.ret))
   (.skip)))
 (.seq
 (.many 0 ([⟨(some 14), .loadN 5 (.t 4), none, 0, []⟩] ++
    (⟨(some 15), .callF 25 [(.t 14)], none, 1, []⟩ ::
    ([⟨none, .store 5 (.t 2) (.t 15), none, 2, []⟩,
     ⟨(some 3), .mov (.c (.int .i64 0)), none, 3, []⟩]))))
 (.ret))))),
 [.cell 2 true 5, .tmp 3]⟩
def tithingref14_Parse_l0 : CCode :=
 (.seq
 (.seq
  (.region 0 ([⟨(some 55), .mov (.t 9), none, 0, []⟩]))
  (.cond (.t 55)
   (.skip)
   (.exit 0)))
 (.block 1
  (.seq
   (.many 0 ([⟨(some 57), .mov (.t 6), none, 0, []⟩] ++
      (⟨(some 58), .callF 29 [(.t 57)], none, 1, []⟩ ::
      ([⟨(some 56), .mov (.t 58), none, 2, []⟩,
       ⟨(some 59), .extract (.t 56) 0, none, 3, []⟩,
       ⟨(some 60), .extract (.t 56) 1, none, 4, []⟩,
       ⟨(some 61), .extract (.t 56) 2, none, 5, []⟩,
       ⟨(some 10), .mov (.t 59), none, 6, []⟩,
       ⟨(some 11), .mov (.t 60), none, 7, []⟩,
       ⟨(some 12), .mov (.t 61), none, 8, []⟩]))))
   (.seq
   (.region 0 ([⟨(some 62), .mov (.t 6), none, 0, []⟩,
       ⟨(some 63), .nilCheck (.t 62), none, 1, []⟩,
       ⟨(some 64), .faddr 1 (.t 63), none, 2, []⟩,
       ⟨(some 65), .load1 (.t 64), none, 3, []⟩,
       ⟨(some 66), .bin .add (.t 65) (.c (.int .i64 1)), none, 4, []⟩,
       ⟨(some 67), .nilCheck (.t 62), none, 5, []⟩,
       ⟨(some 68), .faddr 1 (.t 67), none, 6, []⟩,
       ⟨none, .store 1 (.t 68) (.t 66), none, 7, []⟩]))
   (.seq
   (.seq
    (.region 0 ([⟨(some 69), .mov (.t 11), none, 0, []⟩,
        ⟨(some 70), .bin .eql (.t 69) (.c (.int .i64 8)), none, 1, []⟩]))
    (.cond (.t 70)
     (.exit 0)
     (.skip)))
   (.seq
   (.seq
    (.region 0 ([⟨(some 71), .mov (.t 12), none, 0, []⟩,
        ⟨(some 73), .faddr 3 (.t 7), none, 2, []⟩,
        ⟨(some 74), .load1 (.t 73), none, 3, []⟩,
        ⟨(some 75), .lenV (.t 74), none, 4, []⟩,
        ⟨(some 76), .bin .add (.t 75) (.c (.int .i64 1)), none, 5, []⟩] ++
       (⟨(some 72), .callF 30 [(.t 71)], none, 1, [((some 74), .load1 (.t 73), none)]⟩ ::
       ([⟨(some 77), .bin .neq (.t 72) (.t 76), none, 6, []⟩]))))
    (.cond (.t 77)
     (.seq
      (.region 0 ([⟨(some 78), .build [(.string ⟨⟨[]⟩⟩), (.slice none 0 0), (.slice none 0 0), (.slice none 0 0), (.slice none 0 0)] [], none, 0, []⟩,
          ⟨none, .store 5 (.t 2) (.t 78), none, 1, []⟩,
          ⟨(some 3), .mov (.c (.int .i64 3)), none, 2, []⟩]))
      (.ret))
     (.skip)))
   (.seq
   (.region 0 ([⟨(some 13), .mov (.c (.slice none 0 0)), none, 0, []⟩]))
   (.seq
   (.many 0 ([⟨(some 80), .mov (.t 6), none, 0, []⟩] ++
      (⟨(some 81), .callF 28 [(.t 80)], none, 1, []⟩ ::
      ([⟨(some 79), .mov (.t 81), none, 2, []⟩,
       ⟨(some 82), .extract (.t 79) 0, none, 3, []⟩,
       ⟨(some 83), .extract (.t 79) 1, none, 4, []⟩,
       ⟨(some 13), .mov (.t 82), none, 5, []⟩,
       ⟨(some 9), .mov (.t 83), none, 6, []⟩]))))
   (.region 7 ([⟨(some 84), .faddr 3 (.t 7), none, 0, []⟩,
      ⟨(some 85), .load1 (.t 84), none, 1, []⟩,
      ⟨(some 86), .mov (.t 13), none, 2, []⟩,
      ⟨(some 87), .buildSlice 24 1 [(.slice none 0 0)] [(0, 1, (.t 86))], none, 3, []⟩,
      ⟨(some 88), .append 24 1 24 (.t 85) (.t 87), none, 4, []⟩,
      ⟨(some 89), .faddr 3 (.t 7), none, 5, []⟩,
      ⟨none, .store 1 (.t 89) (.t 88), none, 6, []⟩]))))))))))
def tithingref14_Parse : CFunc := ⟨110,
 (.seq
 (.region 2 ([⟨(some 2), .alloc 27 [(.string ⟨⟨[]⟩⟩), (.slice none 0 0), (.slice none 0 0), (.slice none 0 0), (.slice none 0 0)], none, 0, []⟩,
     ⟨(some 3), .mov (.c (.int .i64 0)), none, 1, []⟩]))
 (.seq
 (.many 0 ([⟨(some 15), .mov (.t 0), none, 0, []⟩] ++
    (⟨(some 16), .callF 26 [(.t 15)], none, 1, []⟩ ::
    ([⟨(some 14), .mov (.t 16), none, 2, []⟩,
     ⟨(some 17), .extract (.t 14) 0, none, 3, []⟩,
     ⟨(some 18), .extract (.t 14) 1, none, 4, []⟩,
     ⟨(some 4), .mov (.t 17), none, 5, []⟩,
     ⟨(some 5), .mov (.t 18), none, 6, []⟩]))))
 (.seq
 (.seq
  (.region 0 ([⟨(some 19), .mov (.t 0), none, 0, []⟩,
      ⟨(some 20), .lenS (.t 19), none, 1, []⟩,
      ⟨(some 21), .bin .gtr (.t 20) (.c (.int .i64 20000)), none, 2, []⟩,
      ⟨(some 22), .mov (.t 21), none, 3, []⟩,
      ⟨(some 23), .mov (.t 5), (some ((some 22), false)), 4, []⟩,
      ⟨(some 24), .un .not (.t 23), (some ((some 22), false)), 5, []⟩,
      ⟨(some 25), .pick (.t 22) (.c (.bool true)) (.t 24), none, 6, []⟩,
      ⟨(some 26), .mov (.t 25), none, 7, []⟩,
      ⟨(some 27), .mov (.t 4), (some ((some 26), false)), 8, []⟩,
      ⟨(some 28), .lenV (.t 27), (some ((some 26), false)), 9, []⟩,
      ⟨(some 29), .bin .eql (.t 28) (.c (.int .i64 0)), (some ((some 26), false)), 10, []⟩,
      ⟨(some 30), .pick (.t 26) (.c (.bool true)) (.t 29), none, 11, []⟩,
      ⟨(some 31), .mov (.t 30), none, 12, []⟩,
      ⟨(some 32), .mov (.t 4), (some ((some 31), false)), 13, []⟩,
      ⟨(some 33), .iaddrV 1 (.t 32) (.c (.int .i64 0)), (some ((some 31), false)), 14, []⟩,
      ⟨(some 34), .load1 (.t 33), (some ((some 31), false)), 15, []⟩,
      ⟨(some 35), .bin .neq (.t 34) (.c (.string ⟨⟨[37, 33, 68, 111, 99]⟩⟩)), (some ((some 31), false)), 16, []⟩,
      ⟨(some 36), .pick (.t 31) (.c (.bool true)) (.t 35), none, 17, []⟩]))
  (.cond (.t 36)
   (.seq
    (.region 0 ([⟨(some 37), .build [(.string ⟨⟨[]⟩⟩), (.slice none 0 0), (.slice none 0 0), (.slice none 0 0), (.slice none 0 0)] [], none, 0, []⟩,
        ⟨none, .store 5 (.t 2) (.t 37), none, 1, []⟩,
        ⟨(some 3), .mov (.c (.int .i64 3)), none, 2, []⟩]))
    (.ret))
   (.skip)))
 (.seq
 (.region 4 ([⟨(some 38), .mov (.t 4), none, 0, []⟩,
     ⟨(some 39), .build [(.slice none 0 0), (.int .i64 0)] [(0, 1, (.t 38)), (1, 1, (.c (.int .i64 1)))], none, 1, []⟩,
     ⟨(some 40), .box 50 (.t 39), none, 2, []⟩,
     ⟨(some 6), .mov (.t 40), none, 3, []⟩]))
 (.seq
 (.region 1 ([⟨(some 7), .alloc 27 [(.string ⟨⟨[]⟩⟩), (.slice none 0 0), (.slice none 0 0), (.slice none 0 0), (.slice none 0 0)], none, 0, []⟩]))
 (.seq
 (.many 0 ([⟨(some 42), .mov (.t 6), none, 0, []⟩] ++
    (⟨(some 43), .callF 27 [(.t 42), (.t 7)], none, 1, []⟩ ::
    ([⟨(some 41), .mov (.t 43), none, 2, []⟩,
     ⟨(some 44), .extract (.t 41) 0, none, 3, []⟩,
     ⟨(some 45), .extract (.t 41) 1, none, 4, []⟩,
     ⟨(some 8), .mov (.t 44), none, 5, []⟩,
     ⟨(some 9), .mov (.t 45), none, 6, []⟩]))))
 (.seq
 (.seq
  (.region 0 ([⟨(some 46), .mov (.t 9), none, 0, []⟩,
      ⟨(some 47), .un .not (.t 46), none, 1, []⟩]))
  (.cond (.t 47)
   (.seq
    (.region 0 ([⟨(some 48), .build [(.string ⟨⟨[]⟩⟩), (.slice none 0 0), (.slice none 0 0), (.slice none 0 0), (.slice none 0 0)] [], none, 0, []⟩,
        ⟨none, .store 5 (.t 2) (.t 48), none, 1, []⟩,
        ⟨(some 3), .mov (.c (.int .i64 3)), none, 2, []⟩]))
    (.ret))
   (.skip)))
 (.seq
 (.many 0 ([⟨(some 50), .mov (.t 6), none, 0, []⟩] ++
    (⟨(some 51), .callF 28 [(.t 50)], none, 1, []⟩ ::
    ([⟨(some 49), .mov (.t 51), none, 2, []⟩,
     ⟨(some 52), .extract (.t 49) 0, none, 3, []⟩,
     ⟨(some 53), .extract (.t 49) 1, none, 4, []⟩,
     ⟨(some 54), .faddr 2 (.t 7), none, 5, []⟩,
     ⟨none, .store 1 (.t 54) (.t 52), none, 6, []⟩,
     ⟨(some 9), .mov (.t 53), none, 7, []⟩]))))
 (.seq
 (.block 0
   (.loop tithingref14_Parse_l0))
 (.seq
 (.seq
  (.many 0 ([⟨(some 90), .mov (.t 9), none, 0, []⟩,
      ⟨(some 91), .un .not (.t 90), none, 1, []⟩,
      ⟨(some 92), .mov (.t 91), none, 2, []⟩,
      ⟨(some 93), .mov (.t 8), (some ((some 92), false)), 3, []⟩,
      ⟨(some 94), .bin .geq (.t 93) (.c (.int .i64 0)), (some ((some 92), false)), 4, []⟩,
      ⟨(some 95), .mov (.t 94), (some ((some 92), false)), 5, []⟩,
      ⟨(some 96), .mov (.t 8), (some ((some 95), true)), 6, []⟩,
      ⟨(some 97), .faddr 3 (.t 7), (some ((some 95), true)), 7, []⟩,
      ⟨(some 98), .load1 (.t 97), (some ((some 95), true)), 8, []⟩,
      ⟨(some 99), .lenV (.t 98), (some ((some 95), true)), 9, []⟩,
      ⟨(some 100), .bin .neq (.t 96) (.t 99), (some ((some 95), true)), 10, []⟩,
      ⟨(some 101), .pick (.t 95) (.t 100) (.c (.bool false)), (some ((some 92), false)), 11, []⟩,
      ⟨(some 102), .pick (.t 92) (.c (.bool true)) (.t 101), none, 12, []⟩,
      ⟨(some 103), .mov (.t 102), none, 13, []⟩,
      ⟨(some 104), .mov (.t 6), (some ((some 103), false)), 14, []⟩] ++
     (⟨(some 105), .callF 31 [(.t 104), (.t 7)], (some ((some 103), false)), 15, []⟩ ::
     ([⟨(some 106), .un .not (.t 105), (some ((some 103), false)), 16, []⟩,
      ⟨(some 107), .pick (.t 103) (.c (.bool true)) (.t 106), none, 17, []⟩]))))
  (.cond (.t 107)
   (.seq
    (.region 0 ([⟨(some 108), .build [(.string ⟨⟨[]⟩⟩), (.slice none 0 0), (.slice none 0 0), (.slice none 0 0), (.slice none 0 0)] [], none, 0, []⟩,
        ⟨none, .store 5 (.t 2) (.t 108), none, 1, []⟩,
        ⟨(some 3), .mov (.c (.int .i64 3)), none, 2, []⟩]))
    (.ret))
   (.skip)))
 (.seq
 (.region 0 ([⟨(some 109), .loadN 5 (.t 7), none, 0, []⟩,
     ⟨none, .store 5 (.t 2) (.t 109), none, 1, []⟩,
     ⟨(some 3), .mov (.c (.int .i64 0)), none, 2, []⟩]))
 (.ret)))))))))))),
 [.cell 2 true 5, .tmp 3]⟩
def page_Count : CFunc := ⟨15,
 (.seq
 (.region 0 ([⟨(some 2), .mov (.c (.int .i64 0)), none, 0, []⟩,
     ⟨(some 3), .mov (.c (.int .i64 0)), none, 1, []⟩]))
 (.seq
 (.many 8 ([⟨(some 7), .mov (.t 0), none, 0, []⟩] ++
    (⟨(some 8), .callF 8 [(.t 7)], none, 1, []⟩ ::
    ([⟨(some 6), .mov (.t 8), none, 2, []⟩,
     ⟨(some 9), .extract (.t 6) 0, none, 3, []⟩,
     ⟨(some 10), .extract (.t 6) 1, none, 4, []⟩,
     ⟨(some 4), .alloc 27 [(.string ⟨⟨[]⟩⟩), (.slice none 0 0), (.slice none 0 0), (.slice none 0 0), (.slice none 0 0)], none, 5, []⟩,
     ⟨none, .store 5 (.t 4) (.t 9), none, 6, []⟩,
     ⟨(some 5), .mov (.t 10), none, 7, []⟩]))))
 (.seq
 (.region 0 ([⟨(some 11), .faddr 3 (.t 4), none, 0, []⟩,
     ⟨(some 12), .load1 (.t 11), none, 1, []⟩,
     ⟨(some 13), .lenV (.t 12), none, 2, []⟩,
     ⟨(some 14), .mov (.t 5), none, 3, []⟩,
     ⟨(some 2), .mov (.t 13), none, 4, []⟩,
     ⟨(some 3), .mov (.t 14), none, 5, []⟩]))
 (.ret)))),
 [.tmp 2, .tmp 3]⟩
def page_Needs : CFunc := ⟨8,
 (.seq
 (.region 0 ([⟨(some 2), .mov (.c (.slice none 0 0)), none, 0, []⟩,
     ⟨(some 3), .mov (.c (.int .i64 0)), none, 1, []⟩]))
 (.seq
 (.many 0 ([⟨(some 4), .mov (.t 0), none, 0, []⟩] ++
    (⟨(some 5), .callF 33 [(.t 4), (.c (.string ⟨⟨[37, 37, 73, 110, 99, 108, 117, 100, 101, 58, 32]⟩⟩))], none, 1, []⟩ ::
    ([⟨(some 6), .extract (.t 5) 0, none, 2, []⟩,
     ⟨(some 7), .extract (.t 5) 1, none, 3, []⟩,
     ⟨(some 2), .mov (.t 6), none, 4, []⟩,
     ⟨(some 3), .mov (.t 7), none, 5, []⟩]))))
 (.ret))),
 [.tmp 2, .tmp 3]⟩
def tithingref14_Needs : CFunc := ⟨8,
 (.seq
 (.region 0 ([⟨(some 2), .mov (.c (.slice none 0 0)), none, 0, []⟩,
     ⟨(some 3), .mov (.c (.int .i64 0)), none, 1, []⟩]))
 (.seq
 (.many 0 ([⟨(some 4), .mov (.t 0), none, 0, []⟩] ++
    (⟨(some 5), .callF 34 [(.t 4), (.c (.int .i64 4))], none, 1, []⟩ ::
    ([⟨(some 6), .extract (.t 5) 0, none, 2, []⟩,
     ⟨(some 7), .extract (.t 5) 1, none, 3, []⟩,
     ⟨(some 2), .mov (.t 6), none, 4, []⟩,
     ⟨(some 3), .mov (.t 7), none, 5, []⟩]))))
 (.ret))),
 [.tmp 2, .tmp 3]⟩
def page_Has : CFunc := ⟨8,
 (.seq
 (.region 0 ([⟨(some 2), .mov (.c (.slice none 0 0)), none, 0, []⟩,
     ⟨(some 3), .mov (.c (.int .i64 0)), none, 1, []⟩]))
 (.seq
 (.many 0 ([⟨(some 4), .mov (.t 0), none, 0, []⟩] ++
    (⟨(some 5), .callF 33 [(.t 4), (.c (.string ⟨⟨[37, 37, 66, 101, 103, 105, 110, 58, 32]⟩⟩))], none, 1, []⟩ ::
    ([⟨(some 6), .extract (.t 5) 0, none, 2, []⟩,
     ⟨(some 7), .extract (.t 5) 1, none, 3, []⟩,
     ⟨(some 2), .mov (.t 6), none, 4, []⟩,
     ⟨(some 3), .mov (.t 7), none, 5, []⟩]))))
 (.ret))),
 [.tmp 2, .tmp 3]⟩
def tithingref14_Has : CFunc := ⟨8,
 (.seq
 (.region 0 ([⟨(some 2), .mov (.c (.slice none 0 0)), none, 0, []⟩,
     ⟨(some 3), .mov (.c (.int .i64 0)), none, 1, []⟩]))
 (.seq
 (.many 0 ([⟨(some 4), .mov (.t 0), none, 0, []⟩] ++
    (⟨(some 5), .callF 34 [(.t 4), (.c (.int .i64 5))], none, 1, []⟩ ::
    ([⟨(some 6), .extract (.t 5) 0, none, 2, []⟩,
     ⟨(some 7), .extract (.t 5) 1, none, 3, []⟩,
     ⟨(some 2), .mov (.t 6), none, 4, []⟩,
     ⟨(some 3), .mov (.t 7), none, 5, []⟩]))))
 (.ret))),
 [.tmp 2, .tmp 3]⟩
def tithingref14_SameTexts : CFunc := ⟨8,
 (.seq
 (.region 0 ([⟨(some 4), .mov (.c (.bool false)), none, 0, []⟩]))
 (.seq
 (.many 0 ([⟨(some 5), .mov (.t 0), none, 0, []⟩,
     ⟨(some 6), .mov (.t 1), none, 1, []⟩] ++
    (⟨(some 7), .callF 32 [(.t 5), (.t 6)], none, 2, []⟩ ::
    ([⟨(some 4), .mov (.t 7), none, 3, []⟩]))))
 (.ret))),
 [.tmp 4]⟩
def page_parse_l0 : CCode :=
 (.seq
 (.region 0 ([⟨(some 70), .bin .lss (.t 69) (.t 68), none, 0, []⟩]))
 (.seq
 (.cond (.t 70)
   (.skip)
   (.exit 0))
 (.seq
 (.block 1
   (.seq
    (.region 0 ([⟨(some 71), .iaddrV 1 (.t 67) (.t 69), none, 0, []⟩,
        ⟨(some 72), .load1 (.t 71), none, 1, []⟩,
        ⟨(some 11), .mov (.t 72), none, 2, []⟩]))
    (.seq
    (.many 0 ([⟨(some 74), .mov (.t 11), none, 0, []⟩] ++
       (⟨(some 75), .callF 42 [(.t 74)], none, 1, []⟩ ::
       ([⟨(some 73), .mov (.t 75), none, 2, []⟩,
        ⟨(some 76), .extract (.t 73) 0, none, 3, []⟩,
        ⟨(some 77), .extract (.t 73) 1, none, 4, []⟩,
        ⟨(some 12), .mov (.t 76), none, 5, []⟩,
        ⟨(some 13), .mov (.t 77), none, 6, []⟩]))))
    (.seq
    (.region 0 ([⟨(some 78), .mov (.t 12), none, 0, []⟩]))
    (.block 2
     (.seq
      (.region 0 ([⟨(some 81), .bin .eql (.t 78) (.c (.string ⟨⟨[37, 37, 84, 105, 116, 108, 101, 58, 32]⟩⟩)), none, 0, []⟩,
          ⟨(some 80), .mov (.t 81), none, 1, []⟩]))
      (.cond (.t 80)
       (.seq
        (.region 0 ([⟨(some 82), .mov (.t 13), none, 0, []⟩,
            ⟨(some 83), .faddr 0 (.t 2), none, 1, []⟩,
            ⟨none, .store 1 (.t 83) (.t 82), none, 2, []⟩]))
        (.region 0 ([⟨(some 84), .mov (.t 8), none, 0, []⟩,
           ⟨(some 85), .bin .add (.t 84) (.c (.int .i64 1)), none, 1, []⟩,
           ⟨(some 8), .mov (.t 85), none, 2, []⟩])))
       (.seq
        (.region 0 ([⟨(some 87), .bin .eql (.t 78) (.c (.string ⟨⟨[37, 37, 80, 97, 103, 101, 115, 58, 32]⟩⟩)), none, 0, []⟩,
            ⟨(some 86), .mov (.t 87), none, 1, []⟩]))
        (.cond (.t 86)
         (.seq
          (.region 0 ([⟨(some 88), .mov (.t 13), none, 0, []⟩,
              ⟨(some 7), .mov (.t 88), none, 1, []⟩]))
          (.region 0 ([⟨(some 89), .mov (.t 9), none, 0, []⟩,
             ⟨(some 90), .bin .add (.t 89) (.c (.int .i64 1)), none, 1, []⟩,
             ⟨(some 9), .mov (.t 90), none, 2, []⟩])))
         (.seq
          (.region 0 ([⟨(some 92), .bin .eql (.t 78) (.c (.string ⟨⟨[]⟩⟩)), none, 0, []⟩,
              ⟨(some 91), .mov (.t 92), none, 1, []⟩]))
          (.cond (.t 91)
           (.skip)
           (.seq
            (.region 0 ([⟨(some 79), .loadN 5 (.t 2), none, 0, []⟩,
                ⟨none, .store 5 (.t 2) (.t 79), none, 1, []⟩,
                ⟨(some 3), .mov (.c (.bool false)), none, 2, []⟩]))
            (.ret)))))))))))))
 (.region 0 ([⟨(some 93), .bin .add (.t 69) (.c (.int .i64 1)), none, 0, []⟩,
    ⟨(some 69), .mov (.t 93), none, 1, []⟩])))))
def page_parse_l1 : CCode :=
 (.seq
 (.seq
  (.region 0 ([⟨(some 106), .mov (.t 3), none, 0, []⟩,
      ⟨(some 107), .mov (.t 106), none, 1, []⟩,
      ⟨(some 108), .mov (.t 4), (some ((some 107), true)), 2, []⟩,
      ⟨(some 109), .lenV (.t 108), (some ((some 107), true)), 3, []⟩,
      ⟨(some 110), .bin .gtr (.t 109) (.c (.int .i64 0)), (some ((some 107), true)), 4, []⟩,
      ⟨(some 111), .pick (.t 107) (.t 110) (.c (.bool false)), none, 5, []⟩,
      ⟨(some 112), .mov (.t 111), none, 6, []⟩,
      ⟨(some 113), .mov (.t 4), (some ((some 112), true)), 7, []⟩,
      ⟨(some 114), .iaddrV 1 (.t 113) (.c (.int .i64 0)), (some ((some 112), true)), 8, []⟩,
      ⟨(some 115), .load1 (.t 114), (some ((some 112), true)), 9, []⟩,
      ⟨(some 116), .faddr 3 (.t 2), (some ((some 112), true)), 10, []⟩,
      ⟨(some 117), .load1 (.t 116), (some ((some 112), true)), 11, []⟩,
      ⟨(some 118), .lenV (.t 117), (some ((some 112), true)), 12, []⟩,
      ⟨(some 119), .bin .add (.t 118) (.c (.int .i64 1)), (some ((some 112), true)), 13, []⟩] ++
     (⟨(some 120), .callF 44 [(.t 119)], (some ((some 112), true)), 14, [((some 115), .load1 (.t 114), (some ((some 112), true)))]⟩ ::
     ([⟨(some 121), .bin .add (.c (.string ⟨⟨[37, 37, 80, 97, 103, 101, 58, 32]⟩⟩)) (.t 120), (some ((some 112), true)), 15, []⟩,
      ⟨(some 122), .bin .eql (.t 115) (.t 121), (some ((some 112), true)), 16, []⟩,
      ⟨(some 123), .pick (.t 112) (.t 122) (.c (.bool false)), none, 17, []⟩]))))
  (.cond (.t 123)
   (.skip)
   (.exit 3)))
 (.block 4
  (.seq
   (.many 0 ([⟨(some 125), .mov (.t 4), none, 0, []⟩,
       ⟨(some 126), .sliceV 1 (.t 125) (some (.c (.int .i64 1))) none none, none, 1, []⟩] ++
      (⟨(some 127), .callF 43 [(.t 126)], none, 2, []⟩ ::
      ([⟨(some 124), .mov (.t 127), none, 3, []⟩,
       ⟨(some 128), .extract (.t 124) 0, none, 4, []⟩,
       ⟨(some 129), .extract (.t 124) 1, none, 5, []⟩,
       ⟨(some 14), .mov (.t 128), none, 6, []⟩,
       ⟨(some 3), .mov (.t 129), none, 7, []⟩]))))
   (.region 15 ([⟨(some 130), .faddr 3 (.t 2), none, 0, []⟩,
      ⟨(some 131), .load1 (.t 130), none, 1, []⟩,
      ⟨(some 132), .mov (.t 4), none, 2, []⟩,
      ⟨(some 133), .mov (.t 14), none, 3, []⟩,
      ⟨(some 134), .bin .add (.t 133) (.c (.int .i64 1)), none, 4, []⟩,
      ⟨(some 135), .sliceV 1 (.t 132) (some (.c (.int .i64 1))) (some (.t 134)) none, none, 5, []⟩,
      ⟨(some 138), .mov (.t 4), none, 8, []⟩,
      ⟨(some 139), .mov (.t 14), none, 9, []⟩,
      ⟨(some 140), .bin .add (.t 139) (.c (.int .i64 1)), none, 10, []⟩,
      ⟨(some 141), .sliceV 1 (.t 138) (some (.t 140)) none none, none, 11, []⟩,
      ⟨(some 136), .buildSlice 24 1 [(.slice none 0 0)] [(0, 1, (.t 135))], none, 6, []⟩,
      ⟨(some 137), .append 24 1 24 (.t 131) (.t 136), none, 7, [((some 141), .sliceV 1 (.t 138) (some (.t 140)) none none, none)]⟩,
      ⟨(some 142), .faddr 3 (.t 2), none, 12, []⟩,
      ⟨none, .store 1 (.t 142) (.t 137), none, 13, [((some 141), .sliceV 1 (.t 138) (some (.t 140)) none none, none)]⟩,
      ⟨(some 4), .mov (.t 141), none, 14, []⟩])))))
def page_parse : CFunc := ⟨185,
 (.seq
 (.region 2 ([⟨(some 2), .alloc 27 [(.string ⟨⟨[]⟩⟩), (.slice none 0 0), (.slice none 0 0), (.slice none 0 0), (.slice none 0 0)], none, 0, []⟩,
     ⟨(some 3), .mov (.c (.bool false)), none, 1, []⟩]))
 (.seq
 (.many 0 ([⟨(some 16), .mov (.t 0), none, 0, []⟩] ++
    (⟨(some 17), .callF 40 [(.t 16)], none, 1, []⟩ ::
    ([⟨(some 15), .mov (.t 17), none, 2, []⟩,
     ⟨(some 18), .extract (.t 15) 0, none, 3, []⟩,
     ⟨(some 19), .extract (.t 15) 1, none, 4, []⟩,
     ⟨(some 4), .mov (.t 18), none, 5, []⟩,
     ⟨(some 5), .mov (.t 19), none, 6, []⟩]))))
 (.seq
 (.seq
  (.region 0 ([⟨(some 20), .mov (.t 0), none, 0, []⟩,
      ⟨(some 21), .lenS (.t 20), none, 1, []⟩,
      ⟨(some 22), .bin .gtr (.t 21) (.c (.int .i64 20000)), none, 2, []⟩,
      ⟨(some 23), .mov (.t 22), none, 3, []⟩,
      ⟨(some 24), .mov (.t 5), (some ((some 23), false)), 4, []⟩,
      ⟨(some 25), .un .not (.t 24), (some ((some 23), false)), 5, []⟩,
      ⟨(some 26), .pick (.t 23) (.c (.bool true)) (.t 25), none, 6, []⟩,
      ⟨(some 27), .mov (.t 26), none, 7, []⟩,
      ⟨(some 28), .mov (.t 4), (some ((some 27), false)), 8, []⟩,
      ⟨(some 29), .lenV (.t 28), (some ((some 27), false)), 9, []⟩,
      ⟨(some 30), .bin .lss (.t 29) (.c (.int .i64 4)), (some ((some 27), false)), 10, []⟩,
      ⟨(some 31), .pick (.t 27) (.c (.bool true)) (.t 30), none, 11, []⟩,
      ⟨(some 32), .mov (.t 31), none, 12, []⟩,
      ⟨(some 33), .mov (.t 4), (some ((some 32), false)), 13, []⟩,
      ⟨(some 34), .iaddrV 1 (.t 33) (.c (.int .i64 0)), (some ((some 32), false)), 14, []⟩,
      ⟨(some 35), .load1 (.t 34), (some ((some 32), false)), 15, []⟩,
      ⟨(some 36), .bin .neq (.t 35) (.c (.string ⟨⟨[37, 33, 68, 111, 99]⟩⟩)), (some ((some 32), false)), 16, []⟩,
      ⟨(some 37), .pick (.t 32) (.c (.bool true)) (.t 36), none, 17, []⟩,
      ⟨(some 38), .mov (.t 37), none, 18, []⟩,
      ⟨(some 39), .mov (.t 4), (some ((some 38), false)), 19, []⟩,
      ⟨(some 40), .mov (.t 4), (some ((some 38), false)), 20, []⟩,
      ⟨(some 41), .lenV (.t 40), (some ((some 38), false)), 21, []⟩,
      ⟨(some 42), .bin .sub (.t 41) (.c (.int .i64 1)), (some ((some 38), false)), 22, []⟩,
      ⟨(some 43), .iaddrV 1 (.t 39) (.t 42), (some ((some 38), false)), 23, []⟩,
      ⟨(some 44), .load1 (.t 43), (some ((some 38), false)), 24, []⟩,
      ⟨(some 45), .bin .neq (.t 44) (.c (.string ⟨⟨[37, 37, 69, 79, 70]⟩⟩)), (some ((some 38), false)), 25, []⟩,
      ⟨(some 46), .pick (.t 38) (.c (.bool true)) (.t 45), none, 26, []⟩]))
  (.cond (.t 46)
   (.seq
    (.region 0 ([⟨(some 47), .loadN 5 (.t 2), none, 0, []⟩,
        ⟨none, .store 5 (.t 2) (.t 47), none, 1, []⟩,
        ⟨(some 3), .mov (.c (.bool false)), none, 2, []⟩]))
    (.ret))
   (.skip)))
 (.seq
 (.region 0 ([⟨(some 48), .mov (.t 4), none, 0, []⟩,
     ⟨(some 49), .mov (.t 4), none, 1, []⟩,
     ⟨(some 50), .lenV (.t 49), none, 2, []⟩,
     ⟨(some 51), .bin .sub (.t 50) (.c (.int .i64 1)), none, 3, []⟩,
     ⟨(some 52), .sliceV 1 (.t 48) (some (.c (.int .i64 1))) (some (.t 51)) none, none, 4, []⟩,
     ⟨(some 4), .mov (.t 52), none, 5, []⟩]))
 (.seq
 (.many 0 ([⟨(some 53), .mov (.t 4), none, 0, []⟩] ++
    (⟨(some 54), .callF 41 [(.t 53), (.c (.string ⟨⟨[37, 37, 69, 110, 100, 72, 101, 97, 100, 101, 114]⟩⟩))], none, 1, []⟩ ::
    ([⟨(some 6), .mov (.t 54), none, 2, []⟩]))))
 (.seq
 (.seq
  (.region 0 ([⟨(some 55), .mov (.t 6), none, 0, []⟩,
      ⟨(some 56), .bin .lss (.t 55) (.c (.int .i64 0)), none, 1, []⟩]))
  (.cond (.t 56)
   (.seq
    (.region 0 ([⟨(some 57), .loadN 5 (.t 2), none, 0, []⟩,
        ⟨none, .store 5 (.t 2) (.t 57), none, 1, []⟩,
        ⟨(some 3), .mov (.c (.bool false)), none, 2, []⟩]))
    (.ret))
   (.skip)))
 (.seq
 (.region 0 ([⟨(some 58), .mov (.t 4), none, 0, []⟩,
     ⟨(some 59), .mov (.t 6), none, 1, []⟩,
     ⟨(some 60), .sliceV 1 (.t 58) none (some (.t 59)) none, none, 2, []⟩,
     ⟨(some 61), .mov (.t 4), none, 3, []⟩,
     ⟨(some 62), .mov (.t 6), none, 4, []⟩,
     ⟨(some 63), .bin .add (.t 62) (.c (.int .i64 1)), none, 5, []⟩,
     ⟨(some 64), .sliceV 1 (.t 61) (some (.t 63)) none none, none, 6, []⟩,
     ⟨(some 65), .faddr 1 (.t 2), none, 7, []⟩,
     ⟨none, .store 1 (.t 65) (.t 60), none, 8, [((some 64), .sliceV 1 (.t 61) (some (.t 63)) none none, none)]⟩,
     ⟨(some 4), .mov (.t 64), none, 9, []⟩]))
 (.seq
 (.region 0 ([⟨(some 7), .mov (.c (.string ⟨⟨[]⟩⟩)), none, 0, []⟩]))
 (.seq
 (.region 0 ([⟨(some 8), .mov (.c (.int .i64 0)), none, 0, []⟩,
     ⟨(some 9), .mov (.c (.int .i64 0)), none, 1, []⟩]))
 (.seq
 (.seq
  (.region 0 ([⟨(some 66), .faddr 1 (.t 2), none, 0, []⟩,
      ⟨(some 67), .load1 (.t 66), none, 1, []⟩,
      ⟨(some 68), .lenV (.t 67), none, 2, []⟩,
      ⟨(some 69), .mov (.c (.int .i64 0)), none, 3, []⟩]))
  (.block 0
   (.loop page_parse_l0)))
 (.seq
 (.many 0 ([⟨(some 95), .mov (.t 4), none, 0, []⟩] ++
    (⟨(some 96), .callF 43 [(.t 95)], none, 1, []⟩ ::
    ([⟨(some 94), .mov (.t 96), none, 2, []⟩,
     ⟨(some 97), .extract (.t 94) 0, none, 3, []⟩,
     ⟨(some 98), .extract (.t 94) 1, none, 4, []⟩,
     ⟨(some 14), .mov (.t 97), none, 5, []⟩,
     ⟨(some 3), .mov (.t 98), none, 6, []⟩]))))
 (.seq
 (.region 0 ([⟨(some 99), .mov (.t 4), none, 0, []⟩,
     ⟨(some 100), .mov (.t 14), none, 1, []⟩,
     ⟨(some 101), .sliceV 1 (.t 99) none (some (.t 100)) none, none, 2, []⟩,
     ⟨(some 102), .mov (.t 4), none, 3, []⟩,
     ⟨(some 103), .mov (.t 14), none, 4, []⟩,
     ⟨(some 104), .sliceV 1 (.t 102) (some (.t 103)) none none, none, 5, []⟩,
     ⟨(some 105), .faddr 2 (.t 2), none, 6, []⟩,
     ⟨none, .store 1 (.t 105) (.t 101), none, 7, [((some 104), .sliceV 1 (.t 102) (some (.t 103)) none none, none)]⟩,
     ⟨(some 4), .mov (.t 104), none, 8, []⟩]))
 (.seq
 (.block 3
   (.loop page_parse_l1))
 (.seq
 (.seq
  (.many 0 ([⟨(some 143), .mov (.t 3), none, 0, []⟩,
      ⟨(some 144), .un .not (.t 143), none, 1, []⟩,
      ⟨(some 145), .mov (.t 144), none, 2, []⟩,
      ⟨(some 146), .mov (.t 8), (some ((some 145), false)), 3, []⟩,
      ⟨(some 147), .bin .gtr (.t 146) (.c (.int .i64 1)), (some ((some 145), false)), 4, []⟩,
      ⟨(some 148), .pick (.t 145) (.c (.bool true)) (.t 147), none, 5, []⟩,
      ⟨(some 149), .mov (.t 148), none, 6, []⟩,
      ⟨(some 150), .mov (.t 9), (some ((some 149), false)), 7, []⟩,
      ⟨(some 151), .bin .gtr (.t 150) (.c (.int .i64 1)), (some ((some 149), false)), 8, []⟩,
      ⟨(some 152), .pick (.t 149) (.c (.bool true)) (.t 151), none, 9, []⟩,
      ⟨(some 153), .mov (.t 152), none, 10, []⟩,
      ⟨(some 154), .mov (.t 4), (some ((some 153), false)), 11, []⟩,
      ⟨(some 155), .lenV (.t 154), (some ((some 153), false)), 12, []⟩,
      ⟨(some 156), .bin .eql (.t 155) (.c (.int .i64 0)), (some ((some 153), false)), 13, []⟩,
      ⟨(some 157), .pick (.t 153) (.c (.bool true)) (.t 156), none, 14, []⟩,
      ⟨(some 158), .mov (.t 157), none, 15, []⟩,
      ⟨(some 159), .mov (.t 4), (some ((some 158), false)), 16, []⟩,
      ⟨(some 160), .iaddrV 1 (.t 159) (.c (.int .i64 0)), (some ((some 158), false)), 17, []⟩,
      ⟨(some 161), .load1 (.t 160), (some ((some 158), false)), 18, []⟩,
      ⟨(some 162), .bin .neq (.t 161) (.c (.string ⟨⟨[37, 37, 84, 114, 97, 105, 108, 101, 114]⟩⟩)), (some ((some 158), false)), 19, []⟩,
      ⟨(some 163), .pick (.t 158) (.c (.bool true)) (.t 162), none, 20, []⟩,
      ⟨(some 164), .mov (.t 163), none, 21, []⟩,
      ⟨(some 165), .mov (.t 9), (some ((some 164), false)), 22, []⟩,
      ⟨(some 166), .bin .eql (.t 165) (.c (.int .i64 1)), (some ((some 164), false)), 23, []⟩,
      ⟨(some 167), .mov (.t 166), (some ((some 164), false)), 24, []⟩,
      ⟨(some 168), .mov (.t 7), (some ((some 167), true)), 25, []⟩,
      ⟨(some 169), .faddr 3 (.t 2), (some ((some 167), true)), 26, []⟩,
      ⟨(some 170), .load1 (.t 169), (some ((some 167), true)), 27, []⟩,
      ⟨(some 171), .lenV (.t 170), (some ((some 167), true)), 28, []⟩] ++
     (⟨(some 172), .callF 44 [(.t 171)], (some ((some 167), true)), 29, []⟩ ::
     ([⟨(some 173), .bin .neq (.t 168) (.t 172), (some ((some 167), true)), 30, []⟩,
      ⟨(some 174), .pick (.t 167) (.t 173) (.c (.bool false)), (some ((some 164), false)), 31, []⟩,
      ⟨(some 175), .pick (.t 164) (.c (.bool true)) (.t 174), none, 32, []⟩]))))
  (.cond (.t 175)
   (.seq
    (.region 0 ([⟨(some 176), .loadN 5 (.t 2), none, 0, []⟩,
        ⟨none, .store 5 (.t 2) (.t 176), none, 1, []⟩,
        ⟨(some 3), .mov (.c (.bool false)), none, 2, []⟩]))
    (.ret))
   (.skip)))
 (.seq
 (.region 0 ([⟨(some 177), .mov (.t 4), none, 0, []⟩,
     ⟨(some 178), .sliceV 1 (.t 177) (some (.c (.int .i64 1))) none none, none, 1, []⟩,
     ⟨(some 179), .faddr 4 (.t 2), none, 2, []⟩,
     ⟨none, .store 1 (.t 179) (.t 178), none, 3, []⟩]))
 (.seq
 (.region 0 ([⟨(some 180), .loadN 5 (.t 2), none, 0, []⟩,
     ⟨(some 181), .faddr 4 (.t 2), none, 1, []⟩,
     ⟨(some 182), .load1 (.t 181), none, 2, []⟩] ++
    (⟨(some 183), .callF 45 [(.t 182), (.c (.func (.func 46) ⟨[]⟩ ⟨[]⟩))], none, 3, [((some 180), .loadN 5 (.t 2), none)]⟩ ::
    ([⟨(some 184), .un .not (.t 183), none, 4, []⟩,
     ⟨none, .store 5 (.t 2) (.t 180), none, 5, []⟩,
     ⟨(some 3), .mov (.t 184), none, 6, []⟩]))))
 (.ret))))))))))))))))),
 [.cell 2 true 5, .tmp 3]⟩
def page_clone_l0 : CCode :=
 (.seq
 (.region 0 ([⟨(some 22), .bin .lss (.t 21) (.t 20), none, 0, []⟩]))
 (.seq
 (.cond (.t 22)
   (.skip)
   (.exit 0))
 (.seq
 (.block 1
   (.seq
    (.region 0 ([⟨(some 23), .iaddrV 1 (.t 19) (.t 21), none, 0, []⟩,
        ⟨(some 24), .load1 (.t 23), none, 1, []⟩,
        ⟨(some 5), .mov (.t 24), none, 2, []⟩]))
    (.region 8 ([⟨(some 25), .faddr 3 (.t 3), none, 0, []⟩,
       ⟨(some 26), .load1 (.t 25), none, 1, []⟩,
       ⟨(some 27), .mov (.t 5), none, 2, []⟩] ++
      (⟨(some 28), .callF 47 [(.t 27)], none, 3, [((some 26), .load1 (.t 25), none)]⟩ ::
      ([⟨(some 29), .buildSlice 24 1 [(.slice none 0 0)] [(0, 1, (.t 28))], none, 4, []⟩,
       ⟨(some 30), .append 24 1 24 (.t 26) (.t 29), none, 5, []⟩,
       ⟨(some 31), .faddr 3 (.t 3), none, 6, []⟩,
       ⟨none, .store 1 (.t 31) (.t 30), none, 7, []⟩]))))))
 (.region 0 ([⟨(some 32), .bin .add (.t 21) (.c (.int .i64 1)), none, 0, []⟩,
    ⟨(some 21), .mov (.t 32), none, 1, []⟩])))))
def page_clone : CFunc := ⟨34,
 (.seq
 (.region 2 ([⟨(some 1), .box 27 (.t 0), none, 0, []⟩,
     ⟨(some 2), .alloc 27 [(.string ⟨⟨[]⟩⟩), (.slice none 0 0), (.slice none 0 0), (.slice none 0 0), (.slice none 0 0)], none, 1, []⟩]))
 (.seq
 (.region 14 ([⟨(some 6), .faddr 0 (.t 1), none, 0, []⟩,
     ⟨(some 7), .load1 (.t 6), none, 1, []⟩,
     ⟨(some 8), .faddr 1 (.t 1), none, 2, []⟩,
     ⟨(some 9), .load1 (.t 8), none, 3, []⟩,
     ⟨(some 11), .faddr 2 (.t 1), none, 5, []⟩,
     ⟨(some 12), .load1 (.t 11), none, 6, []⟩,
     ⟨(some 14), .faddr 4 (.t 1), none, 8, []⟩,
     ⟨(some 15), .load1 (.t 14), none, 9, []⟩] ++
    (⟨(some 10), .callF 47 [(.t 9)], none, 4, [((some 7), .load1 (.t 6), none), ((some 12), .load1 (.t 11), none), ((some 15), .load1 (.t 14), none)]⟩ ::
    (⟨(some 13), .callF 47 [(.t 12)], none, 7, [((some 7), .load1 (.t 6), none), ((some 15), .load1 (.t 14), none)]⟩ ::
    (⟨(some 16), .callF 47 [(.t 15)], none, 10, [((some 7), .load1 (.t 6), none)]⟩ ::
    ([⟨(some 17), .build [(.string ⟨⟨[]⟩⟩), (.slice none 0 0), (.slice none 0 0), (.slice none 0 0), (.slice none 0 0)] [(0, 1, (.t 7)), (1, 1, (.t 10)), (2, 1, (.t 13)), (4, 1, (.t 16))], none, 11, []⟩,
     ⟨(some 3), .alloc 27 [(.string ⟨⟨[]⟩⟩), (.slice none 0 0), (.slice none 0 0), (.slice none 0 0), (.slice none 0 0)], none, 12, []⟩,
     ⟨none, .store 5 (.t 3) (.t 17), none, 13, []⟩]))))))
 (.seq
 (.seq
  (.region 0 ([⟨(some 18), .faddr 3 (.t 1), none, 0, []⟩,
      ⟨(some 19), .load1 (.t 18), none, 1, []⟩,
      ⟨(some 20), .lenV (.t 19), none, 2, []⟩,
      ⟨(some 21), .mov (.c (.int .i64 0)), none, 3, []⟩]))
  (.block 0
   (.loop page_clone_l0)))
 (.seq
 (.region 0 ([⟨(some 33), .loadN 5 (.t 3), none, 0, []⟩,
     ⟨none, .store 5 (.t 2) (.t 33), none, 1, []⟩]))
 (.ret))))),
 [.cell 2 true 5]⟩
def tithingref14_Lines_l0 : CCode :=
 (.seq
 (.seq
  (.region 0 ([⟨(some 7), .mov (.t 6), none, 0, []⟩,
      ⟨(some 8), .mov (.t 0), none, 1, []⟩,
      ⟨(some 9), .lenS (.t 8), none, 2, []⟩,
      ⟨(some 10), .bin .lss (.t 7) (.t 9), none, 3, []⟩]))
  (.cond (.t 10)
   (.skip)
   (.exit 0)))
 (.seq
 (.block 1
   (.seq
    (.region 0 ([⟨(some 13), .mov (.t 0), none, 0, []⟩,
        ⟨(some 14), .mov (.t 6), none, 1, []⟩,
        ⟨(some 15), .idxS (.t 13) (.t 14), none, 2, []⟩,
        ⟨(some 16), .bin .eql (.t 15) (.c (.int .u8 10)), none, 3, []⟩]))
    (.cond (.t 16)
     (.seq
      (.region 8 ([⟨(some 17), .mov (.t 4), none, 0, []⟩,
          ⟨(some 18), .mov (.t 0), none, 1, []⟩,
          ⟨(some 19), .mov (.t 5), none, 2, []⟩,
          ⟨(some 20), .mov (.t 6), none, 3, []⟩,
          ⟨(some 21), .sliceS (.t 18) (some (.t 19)) (some (.t 20)), none, 4, []⟩,
          ⟨(some 22), .buildSlice 9 1 [(.string ⟨⟨[]⟩⟩)] [(0, 1, (.t 21))], none, 5, []⟩,
          ⟨(some 23), .append 9 1 16 (.t 17) (.t 22), none, 6, []⟩,
          ⟨(some 4), .mov (.t 23), none, 7, []⟩]))
      (.region 0 ([⟨(some 24), .mov (.t 6), none, 0, []⟩,
         ⟨(some 25), .bin .add (.t 24) (.c (.int .i64 1)), none, 1, []⟩,
         ⟨(some 5), .mov (.t 25), none, 2, []⟩])))
     (.skip))))
 (.region 0 ([⟨(some 11), .mov (.t 6), none, 0, []⟩,
    ⟨(some 12), .bin .add (.t 11) (.c (.int .i64 1)), none, 1, []⟩,
    ⟨(some 6), .mov (.t 12), none, 2, []⟩]))))
def tithingref14_Lines : CFunc := ⟨31,
 (.seq
 (.region 0 ([⟨(some 2), .mov (.c (.slice none 0 0)), none, 0, []⟩,
     ⟨(some 3), .mov (.c (.bool false)), none, 1, []⟩]))
 (.seq
 (.region 0 ([⟨(some 4), .mov (.c (.slice none 0 0)), none, 0, []⟩]))
 (.seq
 (.region 0 ([⟨(some 5), .mov (.c (.int .i64 0)), none, 0, []⟩]))
 (.seq
 (.seq
  (.region 0 ([⟨(some 6), .mov (.c (.int .i64 0)), none, 0, []⟩]))
  (.block 0
   (.loop tithingref14_Lines_l0)))
 (.seq
 (.region 0 ([⟨(some 26), .mov (.t 4), none, 0, []⟩,
     ⟨(some 27), .mov (.t 5), none, 1, []⟩,
     ⟨(some 28), .mov (.t 0), none, 2, []⟩,
     ⟨(some 29), .lenS (.t 28), none, 3, []⟩,
     ⟨(some 30), .bin .eql (.t 27) (.t 29), none, 4, []⟩,
     ⟨(some 2), .mov (.t 26), none, 5, []⟩,
     ⟨(some 3), .mov (.t 30), none, 6, []⟩]))
 (.ret)))))),
 [.tmp 2, .tmp 3]⟩
def _tithing_tithingref14_reader_header_l0 : CCode :=
 (.block 1
  (.seq
   (.many 0 ([⟨(some 12), .mov (.t 0), none, 0, []⟩] ++
      (⟨(some 13), .callF 29 [(.t 12)], none, 1, []⟩ ::
      ([⟨(some 11), .mov (.t 13), none, 2, []⟩,
       ⟨(some 14), .extract (.t 11) 0, none, 3, []⟩,
       ⟨(some 15), .extract (.t 11) 1, none, 4, []⟩,
       ⟨(some 16), .extract (.t 11) 2, none, 5, []⟩,
       ⟨(some 8), .mov (.t 14), none, 6, []⟩,
       ⟨(some 9), .mov (.t 15), none, 7, []⟩,
       ⟨(some 10), .mov (.t 16), none, 8, []⟩]))))
   (.seq
   (.region 0 ([⟨(some 17), .mov (.t 0), none, 0, []⟩,
       ⟨(some 18), .nilCheck (.t 17), none, 1, []⟩,
       ⟨(some 19), .faddr 1 (.t 18), none, 2, []⟩,
       ⟨(some 20), .load1 (.t 19), none, 3, []⟩,
       ⟨(some 21), .bin .add (.t 20) (.c (.int .i64 1)), none, 4, []⟩,
       ⟨(some 22), .nilCheck (.t 17), none, 5, []⟩,
       ⟨(some 23), .faddr 1 (.t 22), none, 6, []⟩,
       ⟨none, .store 1 (.t 23) (.t 21), none, 7, []⟩]))
   (.seq
   (.block 2
     (.seq
      (.region 0 ([⟨(some 25), .mov (.t 9), none, 0, []⟩,
          ⟨(some 26), .bin .eql (.t 25) (.c (.int .i64 3)), none, 1, []⟩,
          ⟨(some 24), .mov (.t 26), none, 2, []⟩]))
      (.cond (.t 24)
       (.seq
        (.region 0 ([⟨(some 27), .mov (.t 6), none, 0, []⟩,
            ⟨(some 4), .mov (.t 27), none, 1, []⟩,
            ⟨(some 5), .mov (.c (.bool true)), none, 2, []⟩]))
        (.ret))
       (.seq
        (.region 0 ([⟨(some 29), .mov (.t 9), none, 0, []⟩,
            ⟨(some 30), .bin .eql (.t 29) (.c (.int .i64 1)), none, 1, []⟩,
            ⟨(some 31), .mov (.t 30), none, 2, []⟩,
            ⟨(some 32), .mov (.t 7), (some ((some 31), true)), 3, []⟩,
            ⟨(some 33), .un .not (.t 32), (some ((some 31), true)), 4, []⟩,
            ⟨(some 34), .pick (.t 31) (.t 33) (.c (.bool false)), none, 5, []⟩,
            ⟨(some 28), .mov (.t 34), none, 6, []⟩]))
        (.cond (.t 28)
         (.region 0 ([⟨(some 35), .mov (.t 1), none, 0, []⟩,
             ⟨(some 36), .mov (.t 10), none, 1, []⟩,
             ⟨(some 37), .nilCheck (.t 35), none, 2, []⟩,
             ⟨(some 38), .faddr 0 (.t 37), none, 3, []⟩,
             ⟨none, .store 1 (.t 38) (.t 36), none, 4, []⟩,
             ⟨(some 7), .mov (.c (.bool true)), none, 5, []⟩]))
         (.seq
          (.region 0 ([⟨(some 40), .mov (.t 9), none, 0, []⟩,
              ⟨(some 41), .bin .eql (.t 40) (.c (.int .i64 2)), none, 1, []⟩,
              ⟨(some 42), .mov (.t 41), none, 2, []⟩,
              ⟨(some 43), .mov (.t 6), (some ((some 42), true)), 3, []⟩,
              ⟨(some 44), .bin .lss (.t 43) (.c (.int .i64 0)), (some ((some 42), true)), 4, []⟩,
              ⟨(some 45), .pick (.t 42) (.t 44) (.c (.bool false)), none, 5, []⟩,
              ⟨(some 39), .mov (.t 45), none, 6, []⟩]))
          (.cond (.t 39)
           (.many 0 ([⟨(some 46), .mov (.t 10), none, 0, []⟩] ++
              (⟨(some 47), .callF 30 [(.t 46)], none, 1, []⟩ ::
              ([⟨(some 6), .mov (.t 47), none, 2, []⟩]))))
           (.seq
            (.region 0 ([⟨(some 49), .mov (.t 9), none, 0, []⟩,
                ⟨(some 50), .bin .neq (.t 49) (.c (.int .i64 0)), none, 1, []⟩,
                ⟨(some 48), .mov (.t 50), none, 2, []⟩]))
            (.cond (.t 48)
             (.seq
              (.region 0 ([⟨(some 4), .mov (.c (.int .i64 0)), none, 0, []⟩,
                  ⟨(some 5), .mov (.c (.bool false)), none, 1, []⟩]))
              (.ret))
             (.skip))))))))))
   (.region 11 ([⟨(some 51), .mov (.t 1), none, 0, []⟩,
      ⟨(some 52), .mov (.t 1), none, 1, []⟩,
      ⟨(some 53), .nilCheck (.t 52), none, 2, []⟩,
      ⟨(some 54), .faddr 1 (.t 53), none, 3, []⟩,
      ⟨(some 55), .load1 (.t 54), none, 4, []⟩,
      ⟨(some 56), .mov (.t 8), none, 5, []⟩,
      ⟨(some 57), .buildSlice 9 1 [(.string ⟨⟨[]⟩⟩)] [(0, 1, (.t 56))], none, 6, []⟩,
      ⟨(some 58), .append 9 1 16 (.t 55) (.t 57), none, 7, []⟩,
      ⟨(some 59), .nilCheck (.t 51), none, 8, []⟩,
      ⟨(some 60), .faddr 1 (.t 59), none, 9, []⟩,
      ⟨none, .store 1 (.t 60) (.t 58), none, 10, []⟩]))))))
def _tithing_tithingref14_reader_header : CFunc := ⟨61,
 (.seq
 (.region 0 ([⟨(some 4), .mov (.c (.int .i64 0)), none, 0, []⟩,
     ⟨(some 5), .mov (.c (.bool false)), none, 1, []⟩]))
 (.seq
 (.region 0 ([⟨(some 6), .mov (.c (.int .i64 (-1))), none, 0, []⟩,
     ⟨(some 7), .mov (.c (.bool false)), none, 1, []⟩]))
 (.block 0
  (.loop _tithing_tithingref14_reader_header_l0)))),
 [.tmp 4, .tmp 5]⟩
def _tithing_tithingref14_reader_lines_l0 : CCode :=
 (.block 1
  (.seq
   (.many 0 ([⟨(some 11), .mov (.t 0), none, 0, []⟩] ++
      (⟨(some 12), .callF 29 [(.t 11)], none, 1, []⟩ ::
      ([⟨(some 10), .mov (.t 12), none, 2, []⟩,
       ⟨(some 13), .extract (.t 10) 0, none, 3, []⟩,
       ⟨(some 14), .extract (.t 10) 1, none, 4, []⟩,
       ⟨(some 15), .extract (.t 10) 2, none, 5, []⟩,
       ⟨(some 6), .mov (.t 13), none, 6, []⟩,
       ⟨(some 7), .mov (.t 14), none, 7, []⟩,
       ⟨(some 8), .mov (.t 15), none, 8, []⟩]))))
   (.seq
   (.region 0 ([⟨(some 16), .mov (.t 6), none, 0, []⟩,
       ⟨(some 17), .lenS (.t 16), none, 1, []⟩,
       ⟨(some 18), .bin .geq (.t 17) (.c (.int .i64 2)), none, 2, []⟩,
       ⟨(some 19), .mov (.t 18), none, 3, []⟩,
       ⟨(some 20), .mov (.t 6), (some ((some 19), true)), 4, []⟩,
       ⟨(some 21), .sliceS (.t 20) none (some (.c (.int .i64 2))), (some ((some 19), true)), 5, []⟩,
       ⟨(some 22), .bin .eql (.t 21) (.c (.string ⟨⟨[37, 37]⟩⟩)), (some ((some 19), true)), 6, []⟩,
       ⟨(some 23), .pick (.t 19) (.t 22) (.c (.bool false)), none, 7, []⟩,
       ⟨(some 9), .mov (.t 23), none, 8, []⟩]))
   (.seq
   (.block 2
     (.seq
      (.region 0 ([⟨(some 25), .mov (.t 5), none, 0, []⟩,
          ⟨(some 26), .mov (.t 25), none, 1, []⟩,
          ⟨(some 27), .mov (.t 7), (some ((some 26), true)), 2, []⟩,
          ⟨(some 28), .bin .eql (.t 27) (.c (.int .i64 6)), (some ((some 26), true)), 3, []⟩,
          ⟨(some 29), .pick (.t 26) (.t 28) (.c (.bool false)), none, 4, []⟩,
          ⟨(some 24), .mov (.t 29), none, 5, []⟩]))
      (.cond (.t 24)
       (.region 0 ([⟨(some 5), .mov (.c (.bool false)), none, 0, []⟩]))
       (.seq
        (.region 0 ([⟨(some 31), .mov (.t 5), none, 0, []⟩,
            ⟨(some 32), .mov (.t 31), none, 1, []⟩,
            ⟨(some 33), .mov (.t 9), (some ((some 32), true)), 2, []⟩,
            ⟨(some 34), .pick (.t 32) (.t 33) (.c (.bool false)), none, 3, []⟩,
            ⟨(some 30), .mov (.t 34), none, 4, []⟩]))
        (.cond (.t 30)
         (.seq
          (.region 0 ([⟨(some 2), .mov (.c (.slice none 0 0)), none, 0, []⟩,
              ⟨(some 3), .mov (.c (.bool false)), none, 1, []⟩]))
          (.ret))
         (.seq
          (.region 0 ([⟨(some 36), .mov (.t 5), none, 0, []⟩,
              ⟨(some 35), .mov (.t 36), none, 1, []⟩]))
          (.cond (.t 35)
           (.seq
            (.region 0 ([⟨(some 37), .mov (.t 0), none, 0, []⟩,
                ⟨(some 38), .nilCheck (.t 37), none, 1, []⟩,
                ⟨(some 39), .faddr 1 (.t 38), none, 2, []⟩,
                ⟨(some 40), .load1 (.t 39), none, 3, []⟩,
                ⟨(some 41), .mov (.t 0), none, 4, []⟩,
                ⟨(some 42), .nilCheck (.t 41), none, 5, []⟩,
                ⟨(some 43), .faddr 0 (.t 42), none, 6, []⟩,
                ⟨(some 44), .load1 (.t 43), none, 7, []⟩,
                ⟨(some 45), .lenV (.t 44), none, 8, []⟩,
                ⟨(some 46), .bin .geq (.t 40) (.t 45), none, 9, []⟩]))
            (.cond (.t 46)
             (.seq
              (.region 0 ([⟨(some 2), .mov (.c (.slice none 0 0)), none, 0, []⟩,
                  ⟨(some 3), .mov (.c (.bool false)), none, 1, []⟩]))
              (.ret))
             (.skip)))
           (.seq
            (.region 0 ([⟨(some 48), .mov (.t 7), none, 0, []⟩,
                ⟨(some 49), .bin .eql (.t 48) (.c (.int .i64 7)), none, 1, []⟩,
                ⟨(some 50), .mov (.t 49), none, 2, []⟩,
                ⟨(some 51), .mov (.t 7), (some ((some 50), false)), 3, []⟩,
                ⟨(some 52), .bin .eql (.t 51) (.c (.int .i64 8)), (some ((some 50), false)), 4, []⟩,
                ⟨(some 53), .pick (.t 50) (.c (.bool true)) (.t 52), none, 5, []⟩,
                ⟨(some 47), .mov (.t 53), none, 6, []⟩]))
            (.cond (.t 47)
             (.seq
              (.region 0 ([⟨(some 54), .mov (.t 4), none, 0, []⟩,
                  ⟨(some 2), .mov (.t 54), none, 1, []⟩,
                  ⟨(some 3), .mov (.c (.bool true)), none, 2, []⟩]))
              (.ret))
             (.seq
              (.region 0 ([⟨(some 56), .mov (.t 7), none, 0, []⟩,
                  ⟨(some 57), .bin .eql (.t 56) (.c (.int .i64 5)), none, 1, []⟩,
                  ⟨(some 55), .mov (.t 57), none, 2, []⟩]))
              (.cond (.t 55)
               (.region 0 ([⟨(some 5), .mov (.c (.bool true)), none, 0, []⟩]))
               (.seq
                (.region 0 ([⟨(some 59), .mov (.t 7), none, 0, []⟩,
                    ⟨(some 60), .bin .neq (.t 59) (.c (.int .i64 0)), none, 1, []⟩,
                    ⟨(some 61), .mov (.t 60), none, 2, []⟩,
                    ⟨(some 62), .mov (.t 7), (some ((some 61), true)), 3, []⟩,
                    ⟨(some 63), .bin .neq (.t 62) (.c (.int .i64 4)), (some ((some 61), true)), 4, []⟩,
                    ⟨(some 64), .pick (.t 61) (.t 63) (.c (.bool false)), none, 5, []⟩,
                    ⟨(some 58), .mov (.t 64), none, 6, []⟩]))
                (.cond (.t 58)
                 (.seq
                  (.region 0 ([⟨(some 2), .mov (.c (.slice none 0 0)), none, 0, []⟩,
                      ⟨(some 3), .mov (.c (.bool false)), none, 1, []⟩]))
                  (.ret))
                 (.skip))))))))))))))
   (.seq
   (.region 5 ([⟨(some 65), .mov (.t 4), none, 0, []⟩,
       ⟨(some 66), .mov (.t 6), none, 1, []⟩,
       ⟨(some 67), .buildSlice 9 1 [(.string ⟨⟨[]⟩⟩)] [(0, 1, (.t 66))], none, 2, []⟩,
       ⟨(some 68), .append 9 1 16 (.t 65) (.t 67), none, 3, []⟩,
       ⟨(some 4), .mov (.t 68), none, 4, []⟩]))
   (.region 0 ([⟨(some 69), .mov (.t 0), none, 0, []⟩,
      ⟨(some 70), .nilCheck (.t 69), none, 1, []⟩,
      ⟨(some 71), .faddr 1 (.t 70), none, 2, []⟩,
      ⟨(some 72), .load1 (.t 71), none, 3, []⟩,
      ⟨(some 73), .bin .add (.t 72) (.c (.int .i64 1)), none, 4, []⟩,
      ⟨(some 74), .nilCheck (.t 69), none, 5, []⟩,
      ⟨(some 75), .faddr 1 (.t 74), none, 6, []⟩,
      ⟨none, .store 1 (.t 75) (.t 73), none, 7, []⟩])))))))
def _tithing_tithingref14_reader_lines : CFunc := ⟨76,
 (.seq
 (.region 0 ([⟨(some 2), .mov (.c (.slice none 0 0)), none, 0, []⟩,
     ⟨(some 3), .mov (.c (.bool false)), none, 1, []⟩]))
 (.seq
 (.region 0 ([⟨(some 4), .mov (.c (.slice none 0 0)), none, 0, []⟩]))
 (.seq
 (.region 0 ([⟨(some 5), .mov (.c (.bool false)), none, 0, []⟩]))
 (.block 0
  (.loop _tithing_tithingref14_reader_lines_l0))))),
 [.tmp 2, .tmp 3]⟩
def _tithing_tithingref14_reader_next : CFunc := ⟨36,
 (.seq
 (.region 0 ([⟨(some 2), .mov (.c (.string ⟨⟨[]⟩⟩)), none, 0, []⟩,
     ⟨(some 3), .mov (.c (.int .i64 0)), none, 1, []⟩,
     ⟨(some 4), .mov (.c (.string ⟨⟨[]⟩⟩)), none, 2, []⟩]))
 (.seq
 (.seq
  (.region 0 ([⟨(some 8), .mov (.t 0), none, 0, []⟩,
      ⟨(some 9), .nilCheck (.t 8), none, 1, []⟩,
      ⟨(some 10), .faddr 1 (.t 9), none, 2, []⟩,
      ⟨(some 11), .load1 (.t 10), none, 3, []⟩,
      ⟨(some 12), .mov (.t 0), none, 4, []⟩,
      ⟨(some 13), .nilCheck (.t 12), none, 5, []⟩,
      ⟨(some 14), .faddr 0 (.t 13), none, 6, []⟩,
      ⟨(some 15), .load1 (.t 14), none, 7, []⟩,
      ⟨(some 16), .lenV (.t 15), none, 8, []⟩,
      ⟨(some 17), .bin .geq (.t 11) (.t 16), none, 9, []⟩]))
  (.cond (.t 17)
   (.seq
    (.region 0 ([⟨(some 2), .mov (.c (.string ⟨⟨[]⟩⟩)), none, 0, []⟩,
        ⟨(some 3), .mov (.c (.int .i64 9)), none, 1, []⟩,
        ⟨(some 4), .mov (.c (.string ⟨⟨[]⟩⟩)), none, 2, []⟩]))
    (.ret))
   (.skip)))
 (.seq
 (.region 0 ([⟨(some 18), .mov (.t 0), none, 0, []⟩,
     ⟨(some 19), .nilCheck (.t 18), none, 1, []⟩,
     ⟨(some 20), .faddr 0 (.t 19), none, 2, []⟩,
     ⟨(some 21), .load1 (.t 20), none, 3, []⟩,
     ⟨(some 22), .mov (.t 0), none, 4, []⟩,
     ⟨(some 23), .nilCheck (.t 22), none, 5, []⟩,
     ⟨(some 24), .faddr 1 (.t 23), none, 6, []⟩,
     ⟨(some 25), .load1 (.t 24), none, 7, []⟩,
     ⟨(some 26), .iaddrV 1 (.t 21) (.t 25), none, 8, []⟩,
     ⟨(some 27), .load1 (.t 26), none, 9, []⟩,
     ⟨(some 5), .mov (.t 27), none, 10, []⟩]))
 (.seq
 (.many 0 ([⟨(some 29), .mov (.t 5), none, 0, []⟩] ++
    (⟨(some 30), .callF 48 [(.t 29)], none, 1, []⟩ ::
    ([⟨(some 28), .mov (.t 30), none, 2, []⟩,
     ⟨(some 31), .extract (.t 28) 0, none, 3, []⟩,
     ⟨(some 32), .extract (.t 28) 1, none, 4, []⟩,
     ⟨(some 6), .mov (.t 31), none, 5, []⟩,
     ⟨(some 7), .mov (.t 32), none, 6, []⟩]))))
 (.seq
 (.region 0 ([⟨(some 33), .mov (.t 5), none, 0, []⟩,
     ⟨(some 34), .mov (.t 6), none, 1, []⟩,
     ⟨(some 35), .mov (.t 7), none, 2, []⟩,
     ⟨(some 2), .mov (.t 33), none, 3, []⟩,
     ⟨(some 3), .mov (.t 34), none, 4, []⟩,
     ⟨(some 4), .mov (.t 35), none, 5, []⟩]))
 (.ret)))))),
 [.tmp 2, .tmp 3, .tmp 4]⟩
def tithingref14_number_l0 : CCode :=
 (.seq
 (.seq
  (.region 0 ([⟨(some 23), .mov (.t 4), none, 0, []⟩,
      ⟨(some 24), .mov (.t 0), none, 1, []⟩,
      ⟨(some 25), .lenS (.t 24), none, 2, []⟩,
      ⟨(some 26), .bin .lss (.t 23) (.t 25), none, 3, []⟩]))
  (.cond (.t 26)
   (.skip)
   (.exit 0)))
 (.seq
 (.block 1
   (.seq
    (.seq
     (.region 0 ([⟨(some 29), .mov (.t 0), none, 0, []⟩,
         ⟨(some 30), .mov (.t 4), none, 1, []⟩,
         ⟨(some 31), .idxS (.t 29) (.t 30), none, 2, []⟩,
         ⟨(some 32), .bin .lss (.t 31) (.c (.int .u8 48)), none, 3, []⟩,
         ⟨(some 33), .mov (.t 32), none, 4, []⟩,
         ⟨(some 34), .mov (.t 0), (some ((some 33), false)), 5, []⟩,
         ⟨(some 35), .mov (.t 4), (some ((some 33), false)), 6, []⟩,
         ⟨(some 36), .idxS (.t 34) (.t 35), (some ((some 33), false)), 7, []⟩,
         ⟨(some 37), .bin .gtr (.t 36) (.c (.int .u8 57)), (some ((some 33), false)), 8, []⟩,
         ⟨(some 38), .pick (.t 33) (.c (.bool true)) (.t 37), none, 9, []⟩]))
     (.cond (.t 38)
      (.seq
       (.region 0 ([⟨(some 2), .mov (.c (.int .i64 (-1))), none, 0, []⟩]))
       (.ret))
      (.skip)))
    (.region 0 ([⟨(some 39), .mov (.t 3), none, 0, []⟩,
       ⟨(some 40), .bin .mul (.c (.int .i64 10)) (.t 39), none, 1, []⟩,
       ⟨(some 41), .mov (.t 0), none, 2, []⟩,
       ⟨(some 42), .mov (.t 4), none, 3, []⟩,
       ⟨(some 43), .idxS (.t 41) (.t 42), none, 4, []⟩,
       ⟨(some 44), .bin .sub (.t 43) (.c (.int .u8 48)), none, 5, []⟩,
       ⟨(some 45), .convI .i64 (.t 44), none, 6, []⟩,
       ⟨(some 46), .bin .add (.t 40) (.t 45), none, 7, []⟩,
       ⟨(some 3), .mov (.t 46), none, 8, []⟩]))))
 (.region 0 ([⟨(some 27), .mov (.t 4), none, 0, []⟩,
    ⟨(some 28), .bin .add (.t 27) (.c (.int .i64 1)), none, 1, []⟩,
    ⟨(some 4), .mov (.t 28), none, 2, []⟩]))))
def tithingref14_number : CFunc := ⟨48,
 (.seq
 (.region 0 ([⟨(some 2), .mov (.c (.int .i64 0)), none, 0, []⟩]))
 (.seq
 (.seq
  (.region 0 ([⟨(some 5), .mov (.t 0), none, 0, []⟩,
      ⟨(some 6), .lenS (.t 5), none, 1, []⟩,
      ⟨(some 7), .bin .lss (.t 6) (.c (.int .i64 1)), none, 2, []⟩,
      ⟨(some 8), .mov (.t 7), none, 3, []⟩,
      ⟨(some 9), .mov (.t 0), (some ((some 8), false)), 4, []⟩,
      ⟨(some 10), .lenS (.t 9), (some ((some 8), false)), 5, []⟩,
      ⟨(some 11), .bin .gtr (.t 10) (.c (.int .i64 3)), (some ((some 8), false)), 6, []⟩,
      ⟨(some 12), .pick (.t 8) (.c (.bool true)) (.t 11), none, 7, []⟩,
      ⟨(some 13), .mov (.t 12), none, 8, []⟩,
      ⟨(some 14), .mov (.t 0), (some ((some 13), false)), 9, []⟩,
      ⟨(some 15), .lenS (.t 14), (some ((some 13), false)), 10, []⟩,
      ⟨(some 16), .bin .gtr (.t 15) (.c (.int .i64 1)), (some ((some 13), false)), 11, []⟩,
      ⟨(some 17), .mov (.t 16), (some ((some 13), false)), 12, []⟩,
      ⟨(some 18), .mov (.t 0), (some ((some 17), true)), 13, []⟩,
      ⟨(some 19), .idxS (.t 18) (.c (.int .i64 0)), (some ((some 17), true)), 14, []⟩,
      ⟨(some 20), .bin .eql (.t 19) (.c (.int .u8 48)), (some ((some 17), true)), 15, []⟩,
      ⟨(some 21), .pick (.t 17) (.t 20) (.c (.bool false)), (some ((some 13), false)), 16, []⟩,
      ⟨(some 22), .pick (.t 13) (.c (.bool true)) (.t 21), none, 17, []⟩]))
  (.cond (.t 22)
   (.seq
    (.region 0 ([⟨(some 2), .mov (.c (.int .i64 (-1))), none, 0, []⟩]))
    (.ret))
   (.skip)))
 (.seq
 (.region 0 ([⟨(some 3), .mov (.c (.int .i64 0)), none, 0, []⟩]))
 (.seq
 (.seq
  (.region 0 ([⟨(some 4), .mov (.c (.int .i64 0)), none, 0, []⟩]))
  (.block 0
   (.loop tithingref14_number_l0)))
 (.seq
 (.region 0 ([⟨(some 47), .mov (.t 3), none, 0, []⟩,
     ⟨(some 2), .mov (.t 47), none, 1, []⟩]))
 (.ret)))))),
 [.tmp 2]⟩
def _tithing_tithingref14_reader_trailer_l0 : CCode :=
 (.block 1
  (.seq
   (.many 0 ([⟨(some 9), .mov (.t 0), none, 0, []⟩] ++
      (⟨(some 10), .callF 29 [(.t 9)], none, 1, []⟩ ::
      ([⟨(some 8), .mov (.t 10), none, 2, []⟩,
       ⟨(some 11), .extract (.t 8) 0, none, 3, []⟩,
       ⟨(some 12), .extract (.t 8) 1, none, 4, []⟩,
       ⟨(some 13), .extract (.t 8) 2, none, 5, []⟩,
       ⟨(some 5), .mov (.t 11), none, 6, []⟩,
       ⟨(some 6), .mov (.t 12), none, 7, []⟩,
       ⟨(some 7), .mov (.t 13), none, 8, []⟩]))))
   (.seq
   (.seq
    (.region 0 ([⟨(some 14), .mov (.t 6), none, 0, []⟩,
        ⟨(some 15), .bin .neq (.t 14) (.c (.int .i64 0)), none, 1, []⟩]))
    (.cond (.t 15)
     (.seq
      (.region 0 ([⟨(some 16), .mov (.t 6), none, 0, []⟩,
          ⟨(some 17), .bin .eql (.t 16) (.c (.int .i64 9)), none, 1, []⟩,
          ⟨(some 18), .mov (.t 17), none, 2, []⟩,
          ⟨(some 19), .mov (.t 0), (some ((some 18), true)), 3, []⟩,
          ⟨(some 20), .nilCheck (.t 19), (some ((some 18), true)), 4, []⟩,
          ⟨(some 21), .faddr 1 (.t 20), (some ((some 18), true)), 5, []⟩,
          ⟨(some 22), .load1 (.t 21), (some ((some 18), true)), 6, []⟩,
          ⟨(some 23), .mov (.t 0), (some ((some 18), true)), 7, []⟩,
          ⟨(some 24), .nilCheck (.t 23), (some ((some 18), true)), 8, []⟩,
          ⟨(some 25), .faddr 0 (.t 24), (some ((some 18), true)), 9, []⟩,
          ⟨(some 26), .load1 (.t 25), (some ((some 18), true)), 10, []⟩,
          ⟨(some 27), .lenV (.t 26), (some ((some 18), true)), 11, []⟩,
          ⟨(some 28), .bin .sub (.t 27) (.c (.int .i64 1)), (some ((some 18), true)), 12, []⟩,
          ⟨(some 29), .bin .eql (.t 22) (.t 28), (some ((some 18), true)), 13, []⟩,
          ⟨(some 30), .pick (.t 18) (.t 29) (.c (.bool false)), none, 14, []⟩,
          ⟨(some 4), .mov (.t 30), none, 15, []⟩]))
      (.ret))
     (.skip)))
   (.seq
   (.region 11 ([⟨(some 31), .mov (.t 1), none, 0, []⟩,
       ⟨(some 32), .mov (.t 1), none, 1, []⟩,
       ⟨(some 33), .nilCheck (.t 32), none, 2, []⟩,
       ⟨(some 34), .faddr 4 (.t 33), none, 3, []⟩,
       ⟨(some 35), .load1 (.t 34), none, 4, []⟩,
       ⟨(some 36), .mov (.t 5), none, 5, []⟩,
       ⟨(some 37), .buildSlice 9 1 [(.string ⟨⟨[]⟩⟩)] [(0, 1, (.t 36))], none, 6, []⟩,
       ⟨(some 38), .append 9 1 16 (.t 35) (.t 37), none, 7, []⟩,
       ⟨(some 39), .nilCheck (.t 31), none, 8, []⟩,
       ⟨(some 40), .faddr 4 (.t 39), none, 9, []⟩,
       ⟨none, .store 1 (.t 40) (.t 38), none, 10, []⟩]))
   (.region 0 ([⟨(some 41), .mov (.t 0), none, 0, []⟩,
      ⟨(some 42), .nilCheck (.t 41), none, 1, []⟩,
      ⟨(some 43), .faddr 1 (.t 42), none, 2, []⟩,
      ⟨(some 44), .load1 (.t 43), none, 3, []⟩,
      ⟨(some 45), .bin .add (.t 44) (.c (.int .i64 1)), none, 4, []⟩,
      ⟨(some 46), .nilCheck (.t 41), none, 5, []⟩,
      ⟨(some 47), .faddr 1 (.t 46), none, 6, []⟩,
      ⟨none, .store 1 (.t 47) (.t 45), none, 7, []⟩]))))))
def _tithing_tithingref14_reader_trailer : CFunc := ⟨48,
 (.seq
 (.region 0 ([⟨(some 4), .mov (.c (.bool false)), none, 0, []⟩]))
 (.block 0
  (.loop _tithing_tithingref14_reader_trailer_l0))),
 [.tmp 4]⟩
def tithingref14_sameLines_l0 : CCode :=
 (.seq
 (.seq
  (.region 0 ([⟨(some 11), .mov (.t 5), none, 0, []⟩,
      ⟨(some 12), .mov (.t 0), none, 1, []⟩,
      ⟨(some 13), .lenV (.t 12), none, 2, []⟩,
      ⟨(some 14), .bin .lss (.t 11) (.t 13), none, 3, []⟩]))
  (.cond (.t 14)
   (.skip)
   (.exit 0)))
 (.seq
 (.block 1
   (.seq
    (.region 0 ([⟨(some 17), .mov (.t 0), none, 0, []⟩,
        ⟨(some 18), .mov (.t 5), none, 1, []⟩,
        ⟨(some 19), .iaddrV 1 (.t 17) (.t 18), none, 2, []⟩,
        ⟨(some 20), .load1 (.t 19), none, 3, []⟩,
        ⟨(some 21), .mov (.t 1), none, 4, []⟩,
        ⟨(some 22), .mov (.t 5), none, 5, []⟩,
        ⟨(some 23), .iaddrV 1 (.t 21) (.t 22), none, 6, []⟩,
        ⟨(some 24), .load1 (.t 23), none, 7, []⟩,
        ⟨(some 25), .bin .neq (.t 20) (.t 24), none, 8, []⟩]))
    (.cond (.t 25)
     (.seq
      (.region 0 ([⟨(some 4), .mov (.c (.bool false)), none, 0, []⟩]))
      (.ret))
     (.skip))))
 (.region 0 ([⟨(some 15), .mov (.t 5), none, 0, []⟩,
    ⟨(some 16), .bin .add (.t 15) (.c (.int .i64 1)), none, 1, []⟩,
    ⟨(some 5), .mov (.t 16), none, 2, []⟩]))))
def tithingref14_sameLines : CFunc := ⟨26,
 (.seq
 (.region 0 ([⟨(some 4), .mov (.c (.bool false)), none, 0, []⟩]))
 (.seq
 (.seq
  (.region 0 ([⟨(some 6), .mov (.t 0), none, 0, []⟩,
      ⟨(some 7), .lenV (.t 6), none, 1, []⟩,
      ⟨(some 8), .mov (.t 1), none, 2, []⟩,
      ⟨(some 9), .lenV (.t 8), none, 3, []⟩,
      ⟨(some 10), .bin .neq (.t 7) (.t 9), none, 4, []⟩]))
  (.cond (.t 10)
   (.seq
    (.region 0 ([⟨(some 4), .mov (.c (.bool false)), none, 0, []⟩]))
    (.ret))
   (.skip)))
 (.seq
 (.seq
  (.region 0 ([⟨(some 5), .mov (.c (.int .i64 0)), none, 0, []⟩]))
  (.block 0
   (.loop tithingref14_sameLines_l0)))
 (.seq
 (.region 0 ([⟨(some 4), .mov (.c (.bool true)), none, 0, []⟩]))
 (.ret))))),
 [.tmp 4]⟩
def page_names_l0 : CCode :=
 (.seq
 (.region 0 ([⟨(some 34), .bin .lss (.t 33) (.t 32), none, 0, []⟩]))
 (.seq
 (.cond (.t 34)
   (.skip)
   (.exit 2))
 (.seq
 (.block 3
   (.seq
    (.region 0 ([⟨(some 35), .iaddrV 1 (.t 31) (.t 33), none, 0, []⟩,
        ⟨(some 36), .load1 (.t 35), none, 1, []⟩,
        ⟨(some 12), .mov (.t 36), none, 2, []⟩]))
    (.seq
    (.many 0 ([⟨(some 38), .mov (.t 12), none, 0, []⟩] ++
       (⟨(some 39), .callF 42 [(.t 38)], none, 1, []⟩ ::
       ([⟨(some 37), .mov (.t 39), none, 2, []⟩,
        ⟨(some 40), .extract (.t 37) 0, none, 3, []⟩,
        ⟨(some 41), .extract (.t 37) 1, none, 4, []⟩,
        ⟨(some 13), .mov (.t 40), none, 5, []⟩,
        ⟨(some 14), .mov (.t 41), none, 6, []⟩]))))
    (.seq
    (.many 0 ([⟨(some 42), .mov (.t 13), none, 0, []⟩,
        ⟨(some 43), .mov (.t 1), none, 1, []⟩,
        ⟨(some 44), .bin .eql (.t 42) (.t 43), none, 2, []⟩,
        ⟨(some 45), .mov (.t 44), none, 3, []⟩,
        ⟨(some 46), .mov (.t 8), (some ((some 45), true)), 4, []⟩,
        ⟨(some 47), .mov (.t 14), (some ((some 45), true)), 5, []⟩] ++
       (⟨(some 48), .callF 49 [(.t 46), (.t 47)], (some ((some 45), true)), 6, []⟩ ::
       ([⟨(some 49), .un .not (.t 48), (some ((some 45), true)), 7, []⟩,
        ⟨(some 50), .pick (.t 45) (.t 49) (.c (.bool false)), none, 8, []⟩]))))
    (.cond (.t 50)
     (.region 5 ([⟨(some 51), .mov (.t 8), none, 0, []⟩,
         ⟨(some 52), .mov (.t 14), none, 1, []⟩,
         ⟨(some 53), .buildSlice 9 1 [(.string ⟨⟨[]⟩⟩)] [(0, 1, (.t 52))], none, 2, []⟩,
         ⟨(some 54), .append 9 1 16 (.t 51) (.t 53), none, 3, []⟩,
         ⟨(some 8), .mov (.t 54), none, 4, []⟩]))
     (.skip))))))
 (.region 0 ([⟨(some 55), .bin .add (.t 33) (.c (.int .i64 1)), none, 0, []⟩,
    ⟨(some 33), .mov (.t 55), none, 1, []⟩])))))
def page_names_l1 : CCode :=
 (.seq
 (.region 0 ([⟨(some 28), .bin .lss (.t 27) (.t 26), none, 0, []⟩]))
 (.seq
 (.cond (.t 28)
   (.skip)
   (.exit 0))
 (.seq
 (.block 1
   (.seq
    (.region 0 ([⟨(some 29), .iaddrV 1 (.t 25) (.t 27), none, 0, []⟩,
        ⟨(some 30), .load1 (.t 29), none, 1, []⟩,
        ⟨(some 10), .mov (.t 30), none, 2, []⟩]))
    (.seq
    (.region 0 ([⟨(some 31), .mov (.t 10), none, 0, []⟩,
        ⟨(some 32), .lenV (.t 31), none, 1, []⟩,
        ⟨(some 33), .mov (.c (.int .i64 0)), none, 2, []⟩]))
    (.block 2
     (.loop page_names_l0)))))
 (.region 0 ([⟨(some 56), .bin .add (.t 27) (.c (.int .i64 1)), none, 0, []⟩,
    ⟨(some 27), .mov (.t 56), none, 1, []⟩])))))
def page_names : CFunc := ⟨59,
 (.seq
 (.region 0 ([⟨(some 4), .mov (.c (.slice none 0 0)), none, 0, []⟩,
     ⟨(some 5), .mov (.c (.int .i64 0)), none, 1, []⟩]))
 (.seq
 (.many 8 ([⟨(some 16), .mov (.t 0), none, 0, []⟩] ++
    (⟨(some 17), .callF 8 [(.t 16)], none, 1, []⟩ ::
    ([⟨(some 15), .mov (.t 17), none, 2, []⟩,
     ⟨(some 18), .extract (.t 15) 0, none, 3, []⟩,
     ⟨(some 19), .extract (.t 15) 1, none, 4, []⟩,
     ⟨(some 6), .alloc 27 [(.string ⟨⟨[]⟩⟩), (.slice none 0 0), (.slice none 0 0), (.slice none 0 0), (.slice none 0 0)], none, 5, []⟩,
     ⟨none, .store 5 (.t 6) (.t 18), none, 6, []⟩,
     ⟨(some 7), .mov (.t 19), none, 7, []⟩]))))
 (.seq
 (.region 0 ([⟨(some 8), .mov (.c (.slice none 0 0)), none, 0, []⟩]))
 (.seq
 (.seq
  (.region 8 ([⟨(some 20), .faddr 2 (.t 6), none, 0, []⟩,
      ⟨(some 21), .load1 (.t 20), none, 1, []⟩,
      ⟨(some 22), .buildSlice 24 1 [(.slice none 0 0)] [(0, 1, (.t 21))], none, 2, []⟩,
      ⟨(some 23), .faddr 3 (.t 6), none, 3, []⟩,
      ⟨(some 24), .load1 (.t 23), none, 4, []⟩,
      ⟨(some 25), .append 24 1 24 (.t 22) (.t 24), none, 5, []⟩,
      ⟨(some 26), .lenV (.t 25), none, 6, []⟩,
      ⟨(some 27), .mov (.c (.int .i64 0)), none, 7, []⟩]))
  (.block 0
   (.loop page_names_l1)))
 (.seq
 (.region 0 ([⟨(some 57), .mov (.t 8), none, 0, []⟩,
     ⟨(some 58), .mov (.t 7), none, 1, []⟩,
     ⟨(some 4), .mov (.t 57), none, 2, []⟩,
     ⟨(some 5), .mov (.t 58), none, 3, []⟩]))
 (.ret)))))),
 [.tmp 4, .tmp 5]⟩
def tithingref14_names_l0 : CCode :=
 (.seq
 (.seq
  (.region 0 ([⟨(some 26), .mov (.t 9), none, 0, []⟩,
      ⟨(some 27), .faddr 3 (.t 6), none, 1, []⟩,
      ⟨(some 28), .load1 (.t 27), none, 2, []⟩,
      ⟨(some 29), .lenV (.t 28), none, 3, []⟩,
      ⟨(some 30), .bin .lss (.t 26) (.t 29), none, 4, []⟩]))
  (.cond (.t 30)
   (.skip)
   (.exit 0)))
 (.seq
 (.block 1
   (.region 0 ([⟨(some 33), .mov (.t 8), none, 0, []⟩,
       ⟨(some 34), .faddr 3 (.t 6), none, 1, []⟩,
       ⟨(some 35), .load1 (.t 34), none, 2, []⟩,
       ⟨(some 36), .mov (.t 9), none, 3, []⟩,
       ⟨(some 37), .iaddrV 1 (.t 35) (.t 36), none, 4, []⟩,
       ⟨(some 38), .load1 (.t 37), none, 5, []⟩,
       ⟨(some 39), .append 9 1 16 (.t 33) (.t 38), none, 6, []⟩,
       ⟨(some 8), .mov (.t 39), none, 7, []⟩])))
 (.region 0 ([⟨(some 31), .mov (.t 9), none, 0, []⟩,
    ⟨(some 32), .bin .add (.t 31) (.c (.int .i64 1)), none, 1, []⟩,
    ⟨(some 9), .mov (.t 32), none, 2, []⟩]))))
def tithingref14_names_l1 : CCode :=
 (.seq
 (.seq
  (.region 0 ([⟨(some 40), .mov (.t 11), none, 0, []⟩,
      ⟨(some 41), .mov (.t 8), none, 1, []⟩,
      ⟨(some 42), .lenV (.t 41), none, 2, []⟩,
      ⟨(some 43), .bin .lss (.t 40) (.t 42), none, 3, []⟩]))
  (.cond (.t 43)
   (.skip)
   (.exit 2)))
 (.seq
 (.block 3
   (.seq
    (.many 0 ([⟨(some 47), .mov (.t 8), none, 0, []⟩,
        ⟨(some 48), .mov (.t 11), none, 1, []⟩,
        ⟨(some 49), .iaddrV 1 (.t 47) (.t 48), none, 2, []⟩,
        ⟨(some 50), .load1 (.t 49), none, 3, []⟩] ++
       (⟨(some 51), .callF 48 [(.t 50)], none, 4, []⟩ ::
       ([⟨(some 46), .mov (.t 51), none, 5, []⟩,
        ⟨(some 52), .extract (.t 46) 0, none, 6, []⟩,
        ⟨(some 53), .extract (.t 46) 1, none, 7, []⟩,
        ⟨(some 12), .mov (.t 52), none, 8, []⟩,
        ⟨(some 13), .mov (.t 53), none, 9, []⟩]))))
    (.seq
    (.many 0 ([⟨(some 54), .mov (.t 12), none, 0, []⟩,
        ⟨(some 55), .mov (.t 1), none, 1, []⟩,
        ⟨(some 56), .bin .eql (.t 54) (.t 55), none, 2, []⟩,
        ⟨(some 57), .mov (.t 56), none, 3, []⟩,
        ⟨(some 58), .mov (.t 10), (some ((some 57), true)), 4, []⟩,
        ⟨(some 59), .mov (.t 13), (some ((some 57), true)), 5, []⟩] ++
       (⟨(some 60), .callF 50 [(.t 58), (.t 59)], (some ((some 57), true)), 6, []⟩ ::
       ([⟨(some 61), .un .not (.t 60), (some ((some 57), true)), 7, []⟩,
        ⟨(some 62), .pick (.t 57) (.t 61) (.c (.bool false)), none, 8, []⟩]))))
    (.cond (.t 62)
     (.region 5 ([⟨(some 63), .mov (.t 10), none, 0, []⟩,
         ⟨(some 64), .mov (.t 13), none, 1, []⟩,
         ⟨(some 65), .buildSlice 9 1 [(.string ⟨⟨[]⟩⟩)] [(0, 1, (.t 64))], none, 2, []⟩,
         ⟨(some 66), .append 9 1 16 (.t 63) (.t 65), none, 3, []⟩,
         ⟨(some 10), .mov (.t 66), none, 4, []⟩]))
     (.skip)))))
 (.region 0 ([⟨(some 44), .mov (.t 11), none, 0, []⟩,
    ⟨(some 45), .bin .add (.t 44) (.c (.int .i64 1)), none, 1, []⟩,
    ⟨(some 11), .mov (.t 45), none, 2, []⟩]))))
def tithingref14_names : CFunc := ⟨68,
 (.seq
 (.region 0 ([⟨(some 4), .mov (.c (.slice none 0 0)), none, 0, []⟩,
     ⟨(some 5), .mov (.c (.int .i64 0)), none, 1, []⟩]))
 (.seq
 (.many 8 ([⟨(some 15), .mov (.t 0), none, 0, []⟩] ++
    (⟨(some 16), .callF 9 [(.t 15)], none, 1, []⟩ ::
    ([⟨(some 14), .mov (.t 16), none, 2, []⟩,
     ⟨(some 17), .extract (.t 14) 0, none, 3, []⟩,
     ⟨(some 18), .extract (.t 14) 1, none, 4, []⟩,
     ⟨(some 6), .alloc 27 [(.string ⟨⟨[]⟩⟩), (.slice none 0 0), (.slice none 0 0), (.slice none 0 0), (.slice none 0 0)], none, 5, []⟩,
     ⟨none, .store 5 (.t 6) (.t 17), none, 6, []⟩,
     ⟨(some 7), .mov (.t 18), none, 7, []⟩]))))
 (.seq
 (.seq
  (.region 0 ([⟨(some 19), .mov (.t 7), none, 0, []⟩,
      ⟨(some 20), .bin .neq (.t 19) (.c (.int .i64 0)), none, 1, []⟩]))
  (.cond (.t 20)
   (.seq
    (.region 0 ([⟨(some 21), .mov (.t 7), none, 0, []⟩,
        ⟨(some 4), .mov (.c (.slice none 0 0)), none, 1, []⟩,
        ⟨(some 5), .mov (.t 21), none, 2, []⟩]))
    (.ret))
   (.skip)))
 (.seq
 (.region 5 ([⟨(some 22), .buildSlice 9 0 [] [], none, 0, []⟩,
     ⟨(some 23), .faddr 2 (.t 6), none, 1, []⟩,
     ⟨(some 24), .load1 (.t 23), none, 2, []⟩,
     ⟨(some 25), .append 9 1 16 (.t 22) (.t 24), none, 3, []⟩,
     ⟨(some 8), .mov (.t 25), none, 4, []⟩]))
 (.seq
 (.seq
  (.region 0 ([⟨(some 9), .mov (.c (.int .i64 0)), none, 0, []⟩]))
  (.block 0
   (.loop tithingref14_names_l0)))
 (.seq
 (.region 0 ([⟨(some 10), .mov (.c (.slice none 0 0)), none, 0, []⟩]))
 (.seq
 (.seq
  (.region 0 ([⟨(some 11), .mov (.c (.int .i64 0)), none, 0, []⟩]))
  (.block 2
   (.loop tithingref14_names_l1)))
 (.seq
 (.region 0 ([⟨(some 67), .mov (.t 10), none, 0, []⟩,
     ⟨(some 4), .mov (.t 67), none, 1, []⟩,
     ⟨(some 5), .mov (.c (.int .i64 0)), none, 2, []⟩]))
 (.ret))))))))),
 [.tmp 4, .tmp 5]⟩
def page_lines : CFunc := ⟨16,
 (.seq
 (.region 0 ([⟨(some 2), .mov (.c (.slice none 0 0)), none, 0, []⟩,
     ⟨(some 3), .mov (.c (.bool false)), none, 1, []⟩]))
 (.seq
 (.seq
  (.region 0 ([⟨(some 6), .mov (.t 0), none, 0, []⟩,
      ⟨(some 7), .bin .eql (.t 6) (.c (.string ⟨⟨[]⟩⟩)), none, 1, []⟩]))
  (.cond (.t 7)
   (.seq
    (.region 0 ([⟨(some 2), .mov (.c (.slice none 0 0)), none, 0, []⟩,
        ⟨(some 3), .mov (.c (.bool true)), none, 1, []⟩]))
    (.ret))
   (.skip)))
 (.seq
 (.many 0 ([⟨(some 9), .mov (.t 0), none, 0, []⟩] ++
    (⟨(some 10), .callF 57 [(.t 9), (.c (.string ⟨⟨[10]⟩⟩))], none, 1, []⟩ ::
    ([⟨(some 8), .mov (.t 10), none, 2, []⟩,
     ⟨(some 11), .extract (.t 8) 0, none, 3, []⟩,
     ⟨(some 12), .extract (.t 8) 1, none, 4, []⟩,
     ⟨(some 4), .mov (.t 11), none, 5, []⟩,
     ⟨(some 5), .mov (.t 12), none, 6, []⟩]))))
 (.seq
 (.many 0 ([⟨(some 13), .mov (.t 4), none, 0, []⟩] ++
    (⟨(some 14), .callF 58 [(.t 13), (.c (.string ⟨⟨[10]⟩⟩))], none, 1, []⟩ ::
    ([⟨(some 15), .mov (.t 5), none, 2, []⟩,
     ⟨(some 2), .mov (.t 14), none, 3, []⟩,
     ⟨(some 3), .mov (.t 15), none, 4, []⟩]))))
 (.ret))))),
 [.tmp 2, .tmp 3]⟩
def slices_Index_string_string_l0 : CCode :=
 (.seq
 (.region 0 ([⟨(some 9), .bin .lss (.t 8) (.t 7), none, 0, []⟩]))
 (.seq
 (.cond (.t 9)
   (.skip)
   (.exit 0))
 (.seq
 (.block 1
   (.seq
    (.region 0 ([⟨(some 10), .mov (.t 8), none, 0, []⟩,
        ⟨(some 5), .mov (.t 10), none, 1, []⟩]))
    (.seq
    (.region 0 ([⟨(some 11), .mov (.t 1), none, 0, []⟩,
        ⟨(some 12), .mov (.t 0), none, 1, []⟩,
        ⟨(some 13), .mov (.t 5), none, 2, []⟩,
        ⟨(some 14), .iaddrV 1 (.t 12) (.t 13), none, 3, []⟩,
        ⟨(some 15), .load1 (.t 14), none, 4, []⟩,
        ⟨(some 16), .bin .eql (.t 11) (.t 15), none, 5, []⟩]))
    (.cond (.t 16)
     (.seq
      (.region 0 ([⟨(some 17), .mov (.t 5), none, 0, []⟩,
          ⟨(some 4), .mov (.t 17), none, 1, []⟩]))
      (.ret))
     (.skip)))))
 (.region 0 ([⟨(some 18), .bin .add (.t 8) (.c (.int .i64 1)), none, 0, []⟩,
    ⟨(some 8), .mov (.t 18), none, 1, []⟩])))))
def slices_Index_string_string : CFunc := ⟨19,
 (.seq
 (.region 0 ([⟨(some 4), .mov (.c (.int .i64 0)), none, 0, []⟩]))
 (.seq
 (.seq
  (.region 0 ([⟨(some 6), .mov (.t 0), none, 0, []⟩,
      ⟨(some 7), .lenV (.t 6), none, 1, []⟩,
      ⟨(some 8), .mov (.c (.int .i64 0)), none, 2, []⟩]))
  (.block 0
   (.loop slices_Index_string_string_l0)))
 (.seq
 (.region 0 ([⟨(some 4), .mov (.c (.int .i64 (-1))), none, 0, []⟩]))
 (.ret)))),
 [.tmp 4]⟩
def page_comment_l0 : CCode :=
 (.seq
 (.region 0 ([⟨(some 18), .bin .lss (.t 17) (.t 16), none, 0, []⟩]))
 (.seq
 (.cond (.t 18)
   (.skip)
   (.exit 1))
 (.seq
 (.block 2
   (.seq
    (.region 0 ([⟨(some 19), .iaddrV 1 (.t 15) (.t 17), none, 0, []⟩,
        ⟨(some 20), .load1 (.t 19), none, 1, []⟩,
        ⟨(some 5), .mov (.t 20), none, 2, []⟩]))
    (.seq
    (.many 0 ([⟨(some 22), .mov (.t 0), none, 0, []⟩,
        ⟨(some 23), .mov (.t 5), none, 1, []⟩] ++
       (⟨(some 24), .callF 59 [(.t 22), (.t 23)], none, 2, []⟩ ::
       ([⟨(some 21), .mov (.t 24), none, 3, []⟩,
        ⟨(some 25), .extract (.t 21) 0, none, 4, []⟩,
        ⟨(some 26), .extract (.t 21) 1, none, 5, []⟩,
        ⟨(some 6), .mov (.t 25), none, 6, []⟩,
        ⟨(some 7), .mov (.t 26), none, 7, []⟩]))))
    (.seq
    (.seq
     (.region 0 ([⟨(some 27), .mov (.t 7), none, 0, []⟩,
         ⟨(some 28), .un .not (.t 27), none, 1, []⟩]))
     (.cond (.t 28)
      (.exit 2)
      (.skip)))
    (.block 3
     (.seq
      (.seq
       (.region 0 ([⟨(some 30), .mov (.t 5), none, 0, []⟩,
           ⟨(some 31), .bin .eql (.t 30) (.c (.string ⟨⟨[37, 37, 84, 105, 116, 108, 101, 58, 32]⟩⟩)), none, 1, []⟩,
           ⟨(some 29), .mov (.t 31), none, 2, []⟩]))
       (.cond (.t 29)
        (.skip)
        (.seq
         (.many 0 ([⟨(some 32), .mov (.t 5), none, 0, []⟩,
             ⟨(some 33), .bin .eql (.t 32) (.c (.string ⟨⟨[37, 37, 80, 97, 103, 101, 115, 58, 32]⟩⟩)), none, 1, []⟩,
             ⟨(some 34), .mov (.t 33), none, 2, []⟩,
             ⟨(some 35), .mov (.t 5), (some ((some 34), false)), 3, []⟩,
             ⟨(some 36), .bin .eql (.t 35) (.c (.string ⟨⟨[37, 37, 80, 97, 103, 101, 58, 32]⟩⟩)), (some ((some 34), false)), 4, []⟩,
             ⟨(some 37), .pick (.t 34) (.c (.bool true)) (.t 36), none, 5, []⟩,
             ⟨(some 38), .mov (.t 37), none, 6, []⟩,
             ⟨(some 39), .mov (.t 6), (some ((some 38), true)), 7, []⟩] ++
            (⟨(some 40), .callF 60 [(.t 39)], (some ((some 38), true)), 8, []⟩ ::
            ([⟨(some 41), .pick (.t 38) (.t 40) (.c (.bool false)), none, 9, []⟩,
             ⟨(some 29), .mov (.t 41), none, 10, []⟩]))))
         (.cond (.t 29)
          (.skip)
          (.many 0 ([⟨(some 42), .mov (.t 5), none, 0, []⟩,
              ⟨(some 43), .bin .eql (.t 42) (.c (.string ⟨⟨[37, 37, 73, 110, 99, 108, 117, 100, 101, 58, 32]⟩⟩)), none, 1, []⟩,
              ⟨(some 44), .mov (.t 43), none, 2, []⟩,
              ⟨(some 45), .mov (.t 5), (some ((some 44), false)), 3, []⟩,
              ⟨(some 46), .bin .eql (.t 45) (.c (.string ⟨⟨[37, 37, 66, 101, 103, 105, 110, 58, 32]⟩⟩)), (some ((some 44), false)), 4, []⟩,
              ⟨(some 47), .pick (.t 44) (.c (.bool true)) (.t 46), none, 5, []⟩,
              ⟨(some 48), .mov (.t 47), none, 6, []⟩,
              ⟨(some 49), .mov (.t 6), (some ((some 48), true)), 7, []⟩] ++
             (⟨(some 50), .callF 61 [(.t 49)], (some ((some 48), true)), 8, []⟩ ::
             ([⟨(some 51), .pick (.t 48) (.t 50) (.c (.bool false)), none, 9, []⟩,
              ⟨(some 29), .mov (.t 51), none, 10, []⟩]))))))))
      (.cond (.t 29)
       (.seq
        (.region 0 ([⟨(some 52), .mov (.t 5), none, 0, []⟩,
            ⟨(some 53), .mov (.t 6), none, 1, []⟩,
            ⟨(some 2), .mov (.t 52), none, 2, []⟩,
            ⟨(some 3), .mov (.t 53), none, 3, []⟩]))
        (.ret))
       (.skip))))))))
 (.region 0 ([⟨(some 54), .bin .add (.t 17) (.c (.int .i64 1)), none, 0, []⟩,
    ⟨(some 17), .mov (.t 54), none, 1, []⟩])))))
def page_comment : CFunc := ⟨55,
 (.seq
 (.region 0 ([⟨(some 2), .mov (.c (.string ⟨⟨[]⟩⟩)), none, 0, []⟩,
     ⟨(some 3), .mov (.c (.string ⟨⟨[]⟩⟩)), none, 1, []⟩]))
 (.seq
 (.seq
  (.region 0 ([⟨(some 8), .mov (.t 0), none, 0, []⟩]))
  (.block 0
   (.seq
    (.seq
     (.region 0 ([⟨(some 10), .bin .eql (.t 8) (.c (.string ⟨⟨[37, 37, 69, 110, 100, 72, 101, 97, 100, 101, 114]⟩⟩)), none, 0, []⟩,
         ⟨(some 9), .mov (.t 10), none, 1, []⟩]))
     (.cond (.t 9)
      (.skip)
      (.seq
       (.region 0 ([⟨(some 11), .bin .eql (.t 8) (.c (.string ⟨⟨[37, 37, 69, 110, 100]⟩⟩)), none, 0, []⟩,
           ⟨(some 9), .mov (.t 11), none, 1, []⟩]))
       (.cond (.t 9)
        (.skip)
        (.seq
         (.region 0 ([⟨(some 12), .bin .eql (.t 8) (.c (.string ⟨⟨[37, 37, 84, 114, 97, 105, 108, 101, 114]⟩⟩)), none, 0, []⟩,
             ⟨(some 9), .mov (.t 12), none, 1, []⟩]))
         (.cond (.t 9)
          (.skip)
          (.region 0 ([⟨(some 13), .bin .eql (.t 8) (.c (.string ⟨⟨[37, 37, 69, 79, 70]⟩⟩)), none, 0, []⟩,
              ⟨(some 9), .mov (.t 13), none, 1, []⟩]))))))))
    (.cond (.t 9)
     (.seq
      (.region 0 ([⟨(some 14), .mov (.t 0), none, 0, []⟩,
          ⟨(some 2), .mov (.t 14), none, 1, []⟩,
          ⟨(some 3), .mov (.c (.string ⟨⟨[]⟩⟩)), none, 2, []⟩]))
      (.ret))
     (.skip)))))
 (.seq
 (.seq
  (.region 3 ([⟨(some 15), .buildSlice 9 5 [(.string ⟨⟨[]⟩⟩), (.string ⟨⟨[]⟩⟩), (.string ⟨⟨[]⟩⟩), (.string ⟨⟨[]⟩⟩), (.string ⟨⟨[]⟩⟩)] [(0, 1, (.c (.string ⟨⟨[37, 37, 84, 105, 116, 108, 101, 58, 32]⟩⟩))), (1, 1, (.c (.string ⟨⟨[37, 37, 80, 97, 103, 101, 115, 58, 32]⟩⟩))), (2, 1, (.c (.string ⟨⟨[37, 37, 73, 110, 99, 108, 117, 100, 101, 58, 32]⟩⟩))), (3, 1, (.c (.string ⟨⟨[37, 37, 66, 101, 103, 105, 110, 58, 32]⟩⟩))), (4, 1, (.c (.string ⟨⟨[37, 37, 80, 97, 103, 101, 58, 32]⟩⟩)))], none, 0, []⟩,
      ⟨(some 16), .lenV (.t 15), none, 1, []⟩,
      ⟨(some 17), .mov (.c (.int .i64 0)), none, 2, []⟩]))
  (.block 1
   (.loop page_comment_l0)))
 (.seq
 (.region 0 ([⟨(some 2), .mov (.c (.string ⟨⟨[]⟩⟩)), none, 0, []⟩,
     ⟨(some 3), .mov (.c (.string ⟨⟨[]⟩⟩)), none, 1, []⟩]))
 (.ret))))),
 [.tmp 2, .tmp 3]⟩
def page_body_l0 : CCode :=
 (.seq
 (.region 0 ([⟨(some 12), .bin .lss (.t 11) (.t 10), none, 0, []⟩]))
 (.seq
 (.cond (.t 12)
   (.skip)
   (.exit 0))
 (.seq
 (.block 1
   (.seq
    (.region 0 ([⟨(some 13), .mov (.t 11), none, 0, []⟩,
        ⟨(some 14), .iaddrV 1 (.t 9) (.t 11), none, 1, []⟩,
        ⟨(some 15), .load1 (.t 14), none, 2, []⟩,
        ⟨(some 5), .mov (.t 13), none, 3, []⟩,
        ⟨(some 6), .mov (.t 15), none, 4, []⟩]))
    (.seq
    (.many 0 ([⟨(some 17), .mov (.t 6), none, 0, []⟩] ++
       (⟨(some 18), .callF 42 [(.t 17)], none, 1, []⟩ ::
       ([⟨(some 16), .mov (.t 18), none, 2, []⟩,
        ⟨(some 19), .extract (.t 16) 0, none, 3, []⟩,
        ⟨(some 20), .extract (.t 16) 1, none, 4, []⟩,
        ⟨(some 7), .mov (.t 19), none, 5, []⟩,
        ⟨(some 8), .mov (.t 20), none, 6, []⟩]))))
    (.block 2
     (.seq
      (.region 0 ([⟨(some 29), .mov (.t 4), none, 0, []⟩,
          ⟨(some 30), .mov (.t 29), none, 1, []⟩,
          ⟨(some 31), .mov (.t 7), (some ((some 30), true)), 2, []⟩,
          ⟨(some 32), .bin .eql (.t 31) (.c (.string ⟨⟨[37, 37, 69, 110, 100]⟩⟩)), (some ((some 30), true)), 3, []⟩,
          ⟨(some 33), .pick (.t 30) (.t 32) (.c (.bool false)), none, 4, []⟩,
          ⟨(some 28), .mov (.t 33), none, 5, []⟩]))
      (.cond (.t 28)
       (.region 0 ([⟨(some 4), .mov (.c (.bool false)), none, 0, []⟩]))
       (.seq
        (.many 0 ([⟨(some 35), .mov (.t 4), none, 0, []⟩,
            ⟨(some 36), .mov (.t 35), none, 1, []⟩,
            ⟨(some 37), .mov (.t 6), (some ((some 36), true)), 2, []⟩] ++
           (⟨(some 38), .callF 62 [(.t 37), (.c (.string ⟨⟨[37, 37]⟩⟩))], (some ((some 36), true)), 3, []⟩ ::
           ([⟨(some 39), .pick (.t 36) (.t 38) (.c (.bool false)), none, 4, []⟩,
            ⟨(some 34), .mov (.t 39), none, 5, []⟩]))))
        (.cond (.t 34)
         (.seq
          (.region 0 ([⟨(some 2), .mov (.c (.int .i64 0)), none, 0, []⟩,
              ⟨(some 3), .mov (.c (.bool false)), none, 1, []⟩]))
          (.ret))
         (.seq
          (.region 0 ([⟨(some 41), .mov (.t 4), none, 0, []⟩,
              ⟨(some 42), .mov (.t 41), none, 1, []⟩,
              ⟨(some 43), .mov (.t 7), (some ((some 42), false)), 2, []⟩,
              ⟨(some 44), .bin .eql (.t 43) (.c (.string ⟨⟨[]⟩⟩)), (some ((some 42), false)), 3, []⟩,
              ⟨(some 45), .pick (.t 42) (.c (.bool true)) (.t 44), none, 4, []⟩,
              ⟨(some 46), .mov (.t 45), none, 5, []⟩,
              ⟨(some 47), .mov (.t 7), (some ((some 46), false)), 6, []⟩,
              ⟨(some 48), .bin .eql (.t 47) (.c (.string ⟨⟨[37, 37, 73, 110, 99, 108, 117, 100, 101, 58, 32]⟩⟩)), (some ((some 46), false)), 7, []⟩,
              ⟨(some 49), .pick (.t 46) (.c (.bool true)) (.t 48), none, 8, []⟩,
              ⟨(some 40), .mov (.t 49), none, 9, []⟩]))
          (.cond (.t 40)
           (.skip)
           (.seq
            (.region 0 ([⟨(some 51), .mov (.t 7), none, 0, []⟩,
                ⟨(some 52), .bin .eql (.t 51) (.c (.string ⟨⟨[37, 37, 66, 101, 103, 105, 110, 58, 32]⟩⟩)), none, 1, []⟩,
                ⟨(some 50), .mov (.t 52), none, 2, []⟩]))
            (.cond (.t 50)
             (.region 0 ([⟨(some 4), .mov (.c (.bool true)), none, 0, []⟩]))
             (.seq
              (.region 0 ([⟨(some 21), .mov (.t 5), none, 0, []⟩,
                  ⟨(some 22), .mov (.t 7), none, 1, []⟩,
                  ⟨(some 23), .bin .eql (.t 22) (.c (.string ⟨⟨[37, 37, 80, 97, 103, 101, 58, 32]⟩⟩)), none, 2, []⟩,
                  ⟨(some 24), .mov (.t 23), none, 3, []⟩,
                  ⟨(some 25), .mov (.t 7), (some ((some 24), false)), 4, []⟩,
                  ⟨(some 26), .bin .eql (.t 25) (.c (.string ⟨⟨[37, 37, 84, 114, 97, 105, 108, 101, 114]⟩⟩)), (some ((some 24), false)), 5, []⟩,
                  ⟨(some 27), .pick (.t 24) (.c (.bool true)) (.t 26), none, 6, []⟩,
                  ⟨(some 2), .mov (.t 21), none, 7, []⟩,
                  ⟨(some 3), .mov (.t 27), none, 8, []⟩]))
              (.ret))))))))))))))
 (.region 0 ([⟨(some 53), .bin .add (.t 11) (.c (.int .i64 1)), none, 0, []⟩,
    ⟨(some 11), .mov (.t 53), none, 1, []⟩])))))
def page_body : CFunc := ⟨58,
 (.seq
 (.region 0 ([⟨(some 2), .mov (.c (.int .i64 0)), none, 0, []⟩,
     ⟨(some 3), .mov (.c (.bool false)), none, 1, []⟩]))
 (.seq
 (.region 0 ([⟨(some 4), .mov (.c (.bool false)), none, 0, []⟩]))
 (.seq
 (.seq
  (.region 0 ([⟨(some 9), .mov (.t 0), none, 0, []⟩,
      ⟨(some 10), .lenV (.t 9), none, 1, []⟩,
      ⟨(some 11), .mov (.c (.int .i64 0)), none, 2, []⟩]))
  (.block 0
   (.loop page_body_l0)))
 (.seq
 (.region 0 ([⟨(some 54), .mov (.t 0), none, 0, []⟩,
     ⟨(some 55), .lenV (.t 54), none, 1, []⟩,
     ⟨(some 56), .mov (.t 4), none, 2, []⟩,
     ⟨(some 57), .un .not (.t 56), none, 3, []⟩,
     ⟨(some 2), .mov (.t 55), none, 4, []⟩,
     ⟨(some 3), .mov (.t 57), none, 5, []⟩]))
 (.ret))))),
 [.tmp 2, .tmp 3]⟩
def slices_ContainsFunc_string_string : CFunc := ⟨9,
 (.seq
 (.region 0 ([⟨(some 4), .mov (.c (.bool false)), none, 0, []⟩]))
 (.seq
 (.many 0 ([⟨(some 5), .mov (.t 0), none, 0, []⟩,
     ⟨(some 6), .mov (.t 1), none, 1, []⟩] ++
    (⟨(some 7), .callF 64 [(.t 5), (.t 6)], none, 2, []⟩ ::
    ([⟨(some 8), .bin .geq (.t 7) (.c (.int .i64 0)), none, 3, []⟩,
     ⟨(some 4), .mov (.t 8), none, 4, []⟩]))))
 (.ret))),
 [.tmp 4]⟩
def page_parse_1 : CFunc := ⟨12,
 (.seq
 (.region 0 ([⟨(some 2), .mov (.c (.bool false)), none, 0, []⟩]))
 (.seq
 (.many 0 ([⟨(some 6), .mov (.t 0), none, 0, []⟩] ++
    (⟨(some 7), .callF 42 [(.t 6)], none, 1, []⟩ ::
    ([⟨(some 5), .mov (.t 7), none, 2, []⟩,
     ⟨(some 8), .extract (.t 5) 0, none, 3, []⟩,
     ⟨(some 9), .extract (.t 5) 1, none, 4, []⟩,
     ⟨(some 3), .mov (.t 8), none, 5, []⟩,
     ⟨(some 4), .mov (.t 9), none, 6, []⟩]))))
 (.seq
 (.region 0 ([⟨(some 10), .mov (.t 3), none, 0, []⟩,
     ⟨(some 11), .bin .neq (.t 10) (.c (.string ⟨⟨[]⟩⟩)), none, 1, []⟩,
     ⟨(some 2), .mov (.t 11), none, 2, []⟩]))
 (.ret)))),
 [.tmp 2]⟩
def slices_Clone_string_string : CFunc := ⟨8,
 (.seq
 (.region 0 ([⟨(some 2), .mov (.c (.slice none 0 0)), none, 0, []⟩]))
 (.seq
 (.seq
  (.region 0 ([⟨(some 3), .mov (.t 0), none, 0, []⟩,
      ⟨(some 4), .eqNil false .sl (.t 3), none, 1, []⟩]))
  (.cond (.t 4)
   (.seq
    (.region 0 ([⟨(some 2), .mov (.c (.slice none 0 0)), none, 0, []⟩]))
    (.ret))
   (.skip)))
 (.seq
 (.region 4 ([⟨(some 5), .buildSlice 9 0 [] [], none, 0, []⟩,
     ⟨(some 6), .mov (.t 0), none, 1, []⟩,
     ⟨(some 7), .append 9 1 16 (.t 5) (.t 6), none, 2, []⟩,
     ⟨(some 2), .mov (.t 7), none, 3, []⟩]))
 (.ret)))),
 [.tmp 2]⟩
def tithingref14_kind : CFunc := ⟨76,
 (.seq
 (.region 0 ([⟨(some 2), .mov (.c (.int .i64 0)), none, 0, []⟩,
     ⟨(some 3), .mov (.c (.string ⟨⟨[]⟩⟩)), none, 1, []⟩]))
 (.seq
 (.seq
  (.many 0 ([⟨(some 15), .mov (.t 0), none, 0, []⟩] ++
     (⟨(some 16), .callF 65 [(.t 15), (.c (.string ⟨⟨[37, 37, 84, 105, 116, 108, 101, 58, 32]⟩⟩))], none, 1, []⟩ ::
     ([⟨(some 14), .mov (.t 16), none, 2, []⟩,
      ⟨(some 17), .extract (.t 14) 0, none, 3, []⟩,
      ⟨(some 18), .extract (.t 14) 1, none, 4, []⟩,
      ⟨(some 4), .mov (.t 17), none, 5, []⟩,
      ⟨(some 5), .mov (.t 18), none, 6, []⟩]))))
  (.seq
  (.region 0 ([⟨(some 19), .mov (.t 5), none, 0, []⟩]))
  (.cond (.t 19)
   (.seq
    (.region 0 ([⟨(some 20), .mov (.t 4), none, 0, []⟩,
        ⟨(some 2), .mov (.c (.int .i64 1)), none, 1, []⟩,
        ⟨(some 3), .mov (.t 20), none, 2, []⟩]))
    (.ret))
   (.skip))))
 (.seq
 (.seq
  (.many 0 ([⟨(some 22), .mov (.t 0), none, 0, []⟩] ++
     (⟨(some 23), .callF 65 [(.t 22), (.c (.string ⟨⟨[37, 37, 80, 97, 103, 101, 115, 58, 32]⟩⟩))], none, 1, []⟩ ::
     ([⟨(some 21), .mov (.t 23), none, 2, []⟩,
      ⟨(some 24), .extract (.t 21) 0, none, 3, []⟩,
      ⟨(some 25), .extract (.t 21) 1, none, 4, []⟩,
      ⟨(some 6), .mov (.t 24), none, 5, []⟩,
      ⟨(some 7), .mov (.t 25), none, 6, []⟩]))))
  (.seq
  (.many 0 ([⟨(some 26), .mov (.t 7), none, 0, []⟩,
      ⟨(some 27), .mov (.t 26), none, 1, []⟩,
      ⟨(some 28), .mov (.t 6), (some ((some 27), true)), 2, []⟩] ++
     (⟨(some 29), .callF 30 [(.t 28)], (some ((some 27), true)), 3, []⟩ ::
     ([⟨(some 30), .bin .geq (.t 29) (.c (.int .i64 0)), (some ((some 27), true)), 4, []⟩,
      ⟨(some 31), .pick (.t 27) (.t 30) (.c (.bool false)), none, 5, []⟩]))))
  (.cond (.t 31)
   (.seq
    (.region 0 ([⟨(some 32), .mov (.t 6), none, 0, []⟩,
        ⟨(some 2), .mov (.c (.int .i64 2)), none, 1, []⟩,
        ⟨(some 3), .mov (.t 32), none, 2, []⟩]))
    (.ret))
   (.skip))))
 (.seq
 (.seq
  (.many 0 ([⟨(some 34), .mov (.t 0), none, 0, []⟩] ++
     (⟨(some 35), .callF 65 [(.t 34), (.c (.string ⟨⟨[37, 37, 73, 110, 99, 108, 117, 100, 101, 58, 32]⟩⟩))], none, 1, []⟩ ::
     ([⟨(some 33), .mov (.t 35), none, 2, []⟩,
      ⟨(some 36), .extract (.t 33) 0, none, 3, []⟩,
      ⟨(some 37), .extract (.t 33) 1, none, 4, []⟩,
      ⟨(some 8), .mov (.t 36), none, 5, []⟩,
      ⟨(some 9), .mov (.t 37), none, 6, []⟩]))))
  (.seq
  (.many 0 ([⟨(some 38), .mov (.t 9), none, 0, []⟩,
      ⟨(some 39), .mov (.t 38), none, 1, []⟩,
      ⟨(some 40), .mov (.t 8), (some ((some 39), true)), 2, []⟩] ++
     (⟨(some 41), .callF 66 [(.t 40)], (some ((some 39), true)), 3, []⟩ ::
     ([⟨(some 42), .pick (.t 39) (.t 41) (.c (.bool false)), none, 4, []⟩]))))
  (.cond (.t 42)
   (.seq
    (.region 0 ([⟨(some 43), .mov (.t 8), none, 0, []⟩,
        ⟨(some 2), .mov (.c (.int .i64 4)), none, 1, []⟩,
        ⟨(some 3), .mov (.t 43), none, 2, []⟩]))
    (.ret))
   (.skip))))
 (.seq
 (.seq
  (.many 0 ([⟨(some 45), .mov (.t 0), none, 0, []⟩] ++
     (⟨(some 46), .callF 65 [(.t 45), (.c (.string ⟨⟨[37, 37, 66, 101, 103, 105, 110, 58, 32]⟩⟩))], none, 1, []⟩ ::
     ([⟨(some 44), .mov (.t 46), none, 2, []⟩,
      ⟨(some 47), .extract (.t 44) 0, none, 3, []⟩,
      ⟨(some 48), .extract (.t 44) 1, none, 4, []⟩,
      ⟨(some 10), .mov (.t 47), none, 5, []⟩,
      ⟨(some 11), .mov (.t 48), none, 6, []⟩]))))
  (.seq
  (.many 0 ([⟨(some 49), .mov (.t 11), none, 0, []⟩,
      ⟨(some 50), .mov (.t 49), none, 1, []⟩,
      ⟨(some 51), .mov (.t 10), (some ((some 50), true)), 2, []⟩] ++
     (⟨(some 52), .callF 66 [(.t 51)], (some ((some 50), true)), 3, []⟩ ::
     ([⟨(some 53), .pick (.t 50) (.t 52) (.c (.bool false)), none, 4, []⟩]))))
  (.cond (.t 53)
   (.seq
    (.region 0 ([⟨(some 54), .mov (.t 10), none, 0, []⟩,
        ⟨(some 2), .mov (.c (.int .i64 5)), none, 1, []⟩,
        ⟨(some 3), .mov (.t 54), none, 2, []⟩]))
    (.ret))
   (.skip))))
 (.seq
 (.seq
  (.many 0 ([⟨(some 56), .mov (.t 0), none, 0, []⟩] ++
     (⟨(some 57), .callF 65 [(.t 56), (.c (.string ⟨⟨[37, 37, 80, 97, 103, 101, 58, 32]⟩⟩))], none, 1, []⟩ ::
     ([⟨(some 55), .mov (.t 57), none, 2, []⟩,
      ⟨(some 58), .extract (.t 55) 0, none, 3, []⟩,
      ⟨(some 59), .extract (.t 55) 1, none, 4, []⟩,
      ⟨(some 12), .mov (.t 58), none, 5, []⟩,
      ⟨(some 13), .mov (.t 59), none, 6, []⟩]))))
  (.seq
  (.many 0 ([⟨(some 60), .mov (.t 13), none, 0, []⟩,
      ⟨(some 61), .mov (.t 60), none, 1, []⟩,
      ⟨(some 62), .mov (.t 12), (some ((some 61), true)), 2, []⟩] ++
     (⟨(some 63), .callF 30 [(.t 62)], (some ((some 61), true)), 3, []⟩ ::
     ([⟨(some 64), .bin .geq (.t 63) (.c (.int .i64 0)), (some ((some 61), true)), 4, []⟩,
      ⟨(some 65), .pick (.t 61) (.t 64) (.c (.bool false)), none, 5, []⟩]))))
  (.cond (.t 65)
   (.seq
    (.region 0 ([⟨(some 66), .mov (.t 12), none, 0, []⟩,
        ⟨(some 2), .mov (.c (.int .i64 7)), none, 1, []⟩,
        ⟨(some 3), .mov (.t 66), none, 2, []⟩]))
    (.ret))
   (.skip))))
 (.seq
 (.seq
  (.region 0 ([⟨(some 67), .mov (.t 0), none, 0, []⟩]))
  (.block 0
   (.seq
    (.region 0 ([⟨(some 69), .bin .eql (.t 67) (.c (.string ⟨⟨[37, 37, 69, 110, 100, 72, 101, 97, 100, 101, 114]⟩⟩)), none, 0, []⟩,
        ⟨(some 68), .mov (.t 69), none, 1, []⟩]))
    (.cond (.t 68)
     (.seq
      (.region 0 ([⟨(some 2), .mov (.c (.int .i64 3)), none, 0, []⟩,
          ⟨(some 3), .mov (.c (.string ⟨⟨[]⟩⟩)), none, 1, []⟩]))
      (.ret))
     (.seq
      (.region 0 ([⟨(some 71), .bin .eql (.t 67) (.c (.string ⟨⟨[37, 37, 69, 110, 100]⟩⟩)), none, 0, []⟩,
          ⟨(some 70), .mov (.t 71), none, 1, []⟩]))
      (.cond (.t 70)
       (.seq
        (.region 0 ([⟨(some 2), .mov (.c (.int .i64 6)), none, 0, []⟩,
            ⟨(some 3), .mov (.c (.string ⟨⟨[]⟩⟩)), none, 1, []⟩]))
        (.ret))
       (.seq
        (.region 0 ([⟨(some 73), .bin .eql (.t 67) (.c (.string ⟨⟨[37, 37, 84, 114, 97, 105, 108, 101, 114]⟩⟩)), none, 0, []⟩,
            ⟨(some 72), .mov (.t 73), none, 1, []⟩]))
        (.cond (.t 72)
         (.seq
          (.region 0 ([⟨(some 2), .mov (.c (.int .i64 8)), none, 0, []⟩,
              ⟨(some 3), .mov (.c (.string ⟨⟨[]⟩⟩)), none, 1, []⟩]))
          (.ret))
         (.seq
          (.region 0 ([⟨(some 75), .bin .eql (.t 67) (.c (.string ⟨⟨[37, 37, 69, 79, 70]⟩⟩)), none, 0, []⟩,
              ⟨(some 74), .mov (.t 75), none, 1, []⟩]))
          (.cond (.t 74)
           (.seq
            (.region 0 ([⟨(some 2), .mov (.c (.int .i64 9)), none, 0, []⟩,
                ⟨(some 3), .mov (.c (.string ⟨⟨[]⟩⟩)), none, 1, []⟩]))
            (.ret))
           (.skip)))))))))))
 (.seq
 (.region 0 ([⟨(some 2), .mov (.c (.int .i64 0)), none, 0, []⟩,
     ⟨(some 3), .mov (.c (.string ⟨⟨[]⟩⟩)), none, 1, []⟩]))
 (.ret))))))))),
 [.tmp 2, .tmp 3]⟩
def slices_Contains_string_string : CFunc := ⟨9,
 (.seq
 (.region 0 ([⟨(some 4), .mov (.c (.bool false)), none, 0, []⟩]))
 (.seq
 (.many 0 ([⟨(some 5), .mov (.t 0), none, 0, []⟩,
     ⟨(some 6), .mov (.t 1), none, 1, []⟩] ++
    (⟨(some 7), .callF 41 [(.t 5), (.t 6)], none, 2, []⟩ ::
    ([⟨(some 8), .bin .geq (.t 7) (.c (.int .i64 0)), none, 3, []⟩,
     ⟨(some 4), .mov (.t 8), none, 4, []⟩]))))
 (.ret))),
 [.tmp 4]⟩
def tithingref14_has_l0 : CCode :=
 (.seq
 (.seq
  (.region 0 ([⟨(some 6), .mov (.t 5), none, 0, []⟩,
      ⟨(some 7), .mov (.t 0), none, 1, []⟩,
      ⟨(some 8), .lenV (.t 7), none, 2, []⟩,
      ⟨(some 9), .bin .lss (.t 6) (.t 8), none, 3, []⟩]))
  (.cond (.t 9)
   (.skip)
   (.exit 0)))
 (.seq
 (.block 1
   (.seq
    (.region 0 ([⟨(some 12), .mov (.t 0), none, 0, []⟩,
        ⟨(some 13), .mov (.t 5), none, 1, []⟩,
        ⟨(some 14), .iaddrV 1 (.t 12) (.t 13), none, 2, []⟩,
        ⟨(some 15), .load1 (.t 14), none, 3, []⟩,
        ⟨(some 16), .mov (.t 1), none, 4, []⟩,
        ⟨(some 17), .bin .eql (.t 15) (.t 16), none, 5, []⟩]))
    (.cond (.t 17)
     (.seq
      (.region 0 ([⟨(some 4), .mov (.c (.bool true)), none, 0, []⟩]))
      (.ret))
     (.skip))))
 (.region 0 ([⟨(some 10), .mov (.t 5), none, 0, []⟩,
    ⟨(some 11), .bin .add (.t 10) (.c (.int .i64 1)), none, 1, []⟩,
    ⟨(some 5), .mov (.t 11), none, 2, []⟩]))))
def tithingref14_has : CFunc := ⟨18,
 (.seq
 (.region 0 ([⟨(some 4), .mov (.c (.bool false)), none, 0, []⟩]))
 (.seq
 (.seq
  (.region 0 ([⟨(some 5), .mov (.c (.int .i64 0)), none, 0, []⟩]))
  (.block 0
   (.loop tithingref14_has_l0)))
 (.seq
 (.region 0 ([⟨(some 4), .mov (.c (.bool false)), none, 0, []⟩]))
 (.ret)))),
 [.tmp 4]⟩
def page_isNumber : CFunc := ⟨26,
 (.seq
 (.region 0 ([⟨(some 2), .mov (.c (.bool false)), none, 0, []⟩]))
 (.seq
 (.many 0 ([⟨(some 6), .mov (.t 0), none, 0, []⟩] ++
    (⟨(some 7), .callF 73 [(.t 6)], none, 1, []⟩ ::
    ([⟨(some 5), .mov (.t 7), none, 2, []⟩,
     ⟨(some 8), .extract (.t 5) 0, none, 3, []⟩,
     ⟨(some 9), .extract (.t 5) 1, none, 4, []⟩,
     ⟨(some 3), .mov (.t 8), none, 5, []⟩,
     ⟨(some 4), .mov (.t 9), none, 6, []⟩]))))
 (.seq
 (.many 0 ([⟨(some 10), .mov (.t 4), none, 0, []⟩,
     ⟨(some 11), .eqNil false .ifc (.t 10), none, 1, []⟩,
     ⟨(some 12), .mov (.t 11), none, 2, []⟩,
     ⟨(some 13), .mov (.t 3), (some ((some 12), true)), 3, []⟩,
     ⟨(some 14), .bin .geq (.t 13) (.c (.int .i64 0)), (some ((some 12), true)), 4, []⟩,
     ⟨(some 15), .pick (.t 12) (.t 14) (.c (.bool false)), none, 5, []⟩,
     ⟨(some 16), .mov (.t 15), none, 6, []⟩,
     ⟨(some 17), .mov (.t 3), (some ((some 16), true)), 7, []⟩,
     ⟨(some 18), .bin .leq (.t 17) (.c (.int .i64 999)), (some ((some 16), true)), 8, []⟩,
     ⟨(some 19), .pick (.t 16) (.t 18) (.c (.bool false)), none, 9, []⟩,
     ⟨(some 20), .mov (.t 19), none, 10, []⟩,
     ⟨(some 21), .mov (.t 3), (some ((some 20), true)), 11, []⟩] ++
    (⟨(some 22), .callF 44 [(.t 21)], (some ((some 20), true)), 12, []⟩ ::
    ([⟨(some 23), .mov (.t 0), (some ((some 20), true)), 13, []⟩,
     ⟨(some 24), .bin .eql (.t 22) (.t 23), (some ((some 20), true)), 14, []⟩,
     ⟨(some 25), .pick (.t 20) (.t 24) (.c (.bool false)), none, 15, []⟩,
     ⟨(some 2), .mov (.t 25), none, 16, []⟩]))))
 (.ret)))),
 [.tmp 2]⟩
def page_isName_l0 : CCode :=
 (.seq
 (.region 0 ([⟨(some 9), .bin .lss (.t 8) (.t 7), none, 0, []⟩]))
 (.seq
 (.cond (.t 9)
   (.skip)
   (.exit 0))
 (.seq
 (.block 1
   (.seq
    (.region 0 ([⟨(some 10), .iaddrV 1 (.t 6) (.t 8), none, 0, []⟩,
        ⟨(some 11), .load1 (.t 10), none, 1, []⟩,
        ⟨(some 4), .mov (.t 11), none, 2, []⟩]))
    (.seq
    (.region 0 ([⟨(some 12), .mov (.t 4), none, 0, []⟩,
        ⟨(some 13), .bin .lss (.t 12) (.c (.int .u8 97)), none, 1, []⟩,
        ⟨(some 14), .mov (.t 13), none, 2, []⟩,
        ⟨(some 15), .mov (.t 4), (some ((some 14), false)), 3, []⟩,
        ⟨(some 16), .bin .gtr (.t 15) (.c (.int .u8 122)), (some ((some 14), false)), 4, []⟩,
        ⟨(some 17), .pick (.t 14) (.c (.bool true)) (.t 16), none, 5, []⟩,
        ⟨(some 18), .mov (.t 17), none, 6, []⟩,
        ⟨(some 19), .mov (.t 4), (some ((some 18), true)), 7, []⟩,
        ⟨(some 20), .bin .lss (.t 19) (.c (.int .u8 48)), (some ((some 18), true)), 8, []⟩,
        ⟨(some 21), .mov (.t 20), (some ((some 18), true)), 9, []⟩,
        ⟨(some 22), .mov (.t 4), (some ((some 21), false)), 10, []⟩,
        ⟨(some 23), .bin .gtr (.t 22) (.c (.int .u8 57)), (some ((some 21), false)), 11, []⟩,
        ⟨(some 24), .pick (.t 21) (.c (.bool true)) (.t 23), (some ((some 18), true)), 12, []⟩,
        ⟨(some 25), .pick (.t 18) (.t 24) (.c (.bool false)), none, 13, []⟩,
        ⟨(some 26), .mov (.t 25), none, 14, []⟩,
        ⟨(some 27), .mov (.t 4), (some ((some 26), true)), 15, []⟩,
        ⟨(some 28), .bin .neq (.t 27) (.c (.int .u8 45)), (some ((some 26), true)), 16, []⟩,
        ⟨(some 29), .pick (.t 26) (.t 28) (.c (.bool false)), none, 17, []⟩]))
    (.cond (.t 29)
     (.seq
      (.region 0 ([⟨(some 2), .mov (.c (.bool false)), none, 0, []⟩]))
      (.ret))
     (.skip)))))
 (.region 0 ([⟨(some 30), .bin .add (.t 8) (.c (.int .i64 1)), none, 0, []⟩,
    ⟨(some 8), .mov (.t 30), none, 1, []⟩])))))
def page_isName : CFunc := ⟨39,
 (.seq
 (.region 0 ([⟨(some 2), .mov (.c (.bool false)), none, 0, []⟩]))
 (.seq
 (.seq
  (.region 4 ([⟨(some 5), .mov (.t 0), none, 0, []⟩,
      ⟨(some 6), .convSB 5 (.t 5), none, 1, []⟩,
      ⟨(some 7), .lenV (.t 6), none, 2, []⟩,
      ⟨(some 8), .mov (.c (.int .i64 0)), none, 3, []⟩]))
  (.block 0
   (.loop page_isName_l0)))
 (.seq
 (.region 0 ([⟨(some 31), .mov (.t 0), none, 0, []⟩,
     ⟨(some 32), .lenS (.t 31), none, 1, []⟩,
     ⟨(some 33), .bin .geq (.t 32) (.c (.int .i64 1)), none, 2, []⟩,
     ⟨(some 34), .mov (.t 33), none, 3, []⟩,
     ⟨(some 35), .mov (.t 0), (some ((some 34), true)), 4, []⟩,
     ⟨(some 36), .lenS (.t 35), (some ((some 34), true)), 5, []⟩,
     ⟨(some 37), .bin .leq (.t 36) (.c (.int .i64 20)), (some ((some 34), true)), 6, []⟩,
     ⟨(some 38), .pick (.t 34) (.t 37) (.c (.bool false)), none, 7, []⟩,
     ⟨(some 2), .mov (.t 38), none, 8, []⟩]))
 (.ret)))),
 [.tmp 2]⟩
def slices_IndexFunc_string_string_l0 : CCode :=
 (.seq
 (.region 0 ([⟨(some 9), .bin .lss (.t 8) (.t 7), none, 0, []⟩]))
 (.seq
 (.cond (.t 9)
   (.skip)
   (.exit 0))
 (.seq
 (.block 1
   (.seq
    (.region 0 ([⟨(some 10), .mov (.t 8), none, 0, []⟩,
        ⟨(some 5), .mov (.t 10), none, 1, []⟩]))
    (.seq
    (.many 0 ([⟨(some 11), .mov (.t 1), none, 0, []⟩,
        ⟨(some 12), .mov (.t 0), none, 1, []⟩,
        ⟨(some 13), .mov (.t 5), none, 2, []⟩,
        ⟨(some 14), .iaddrV 1 (.t 12) (.t 13), none, 3, []⟩,
        ⟨(some 15), .load1 (.t 14), none, 4, []⟩] ++
       (⟨(some 16), .callV (.t 11) [(.t 15)], none, 5, []⟩ ::
       ([]))))
    (.cond (.t 16)
     (.seq
      (.region 0 ([⟨(some 17), .mov (.t 5), none, 0, []⟩,
          ⟨(some 4), .mov (.t 17), none, 1, []⟩]))
      (.ret))
     (.skip)))))
 (.region 0 ([⟨(some 18), .bin .add (.t 8) (.c (.int .i64 1)), none, 0, []⟩,
    ⟨(some 8), .mov (.t 18), none, 1, []⟩])))))
def slices_IndexFunc_string_string : CFunc := ⟨19,
 (.seq
 (.region 0 ([⟨(some 4), .mov (.c (.int .i64 0)), none, 0, []⟩]))
 (.seq
 (.seq
  (.region 0 ([⟨(some 6), .mov (.t 0), none, 0, []⟩,
      ⟨(some 7), .lenV (.t 6), none, 1, []⟩,
      ⟨(some 8), .mov (.c (.int .i64 0)), none, 2, []⟩]))
  (.block 0
   (.loop slices_IndexFunc_string_string_l0)))
 (.seq
 (.region 0 ([⟨(some 4), .mov (.c (.int .i64 (-1))), none, 0, []⟩]))
 (.ret)))),
 [.tmp 4]⟩
def tithingref14_behind : CFunc := ⟨23,
 (.seq
 (.region 0 ([⟨(some 4), .mov (.c (.string ⟨⟨[]⟩⟩)), none, 0, []⟩,
     ⟨(some 5), .mov (.c (.bool false)), none, 1, []⟩]))
 (.seq
 (.seq
  (.region 0 ([⟨(some 6), .mov (.t 0), none, 0, []⟩,
      ⟨(some 7), .lenS (.t 6), none, 1, []⟩,
      ⟨(some 8), .mov (.t 1), none, 2, []⟩,
      ⟨(some 9), .lenS (.t 8), none, 3, []⟩,
      ⟨(some 10), .bin .lss (.t 7) (.t 9), none, 4, []⟩,
      ⟨(some 11), .mov (.t 10), none, 5, []⟩,
      ⟨(some 12), .mov (.t 0), (some ((some 11), false)), 6, []⟩,
      ⟨(some 13), .mov (.t 1), (some ((some 11), false)), 7, []⟩,
      ⟨(some 14), .lenS (.t 13), (some ((some 11), false)), 8, []⟩,
      ⟨(some 15), .sliceS (.t 12) none (some (.t 14)), (some ((some 11), false)), 9, []⟩,
      ⟨(some 16), .mov (.t 1), (some ((some 11), false)), 10, []⟩,
      ⟨(some 17), .bin .neq (.t 15) (.t 16), (some ((some 11), false)), 11, []⟩,
      ⟨(some 18), .pick (.t 11) (.c (.bool true)) (.t 17), none, 12, []⟩]))
  (.cond (.t 18)
   (.seq
    (.region 0 ([⟨(some 4), .mov (.c (.string ⟨⟨[]⟩⟩)), none, 0, []⟩,
        ⟨(some 5), .mov (.c (.bool false)), none, 1, []⟩]))
    (.ret))
   (.skip)))
 (.seq
 (.region 0 ([⟨(some 19), .mov (.t 0), none, 0, []⟩,
     ⟨(some 20), .mov (.t 1), none, 1, []⟩,
     ⟨(some 21), .lenS (.t 20), none, 2, []⟩,
     ⟨(some 22), .sliceS (.t 19) (some (.t 21)) none, none, 3, []⟩,
     ⟨(some 4), .mov (.t 22), none, 4, []⟩,
     ⟨(some 5), .mov (.c (.bool true)), none, 5, []⟩]))
 (.ret)))),
 [.tmp 4, .tmp 5]⟩
def tithingref14_IsName_l0 : CCode :=
 (.seq
 (.seq
  (.region 0 ([⟨(some 5), .mov (.t 3), none, 0, []⟩,
      ⟨(some 6), .mov (.t 0), none, 1, []⟩,
      ⟨(some 7), .lenS (.t 6), none, 2, []⟩,
      ⟨(some 8), .bin .lss (.t 5) (.t 7), none, 3, []⟩]))
  (.cond (.t 8)
   (.skip)
   (.exit 0)))
 (.seq
 (.block 1
   (.seq
    (.region 0 ([⟨(some 11), .mov (.t 0), none, 0, []⟩,
        ⟨(some 12), .mov (.t 3), none, 1, []⟩,
        ⟨(some 13), .idxS (.t 11) (.t 12), none, 2, []⟩,
        ⟨(some 4), .mov (.t 13), none, 3, []⟩]))
    (.seq
    (.region 0 ([⟨(some 14), .mov (.t 4), none, 0, []⟩,
        ⟨(some 15), .bin .lss (.t 14) (.c (.int .u8 97)), none, 1, []⟩,
        ⟨(some 16), .mov (.t 15), none, 2, []⟩,
        ⟨(some 17), .mov (.t 4), (some ((some 16), false)), 3, []⟩,
        ⟨(some 18), .bin .gtr (.t 17) (.c (.int .u8 122)), (some ((some 16), false)), 4, []⟩,
        ⟨(some 19), .pick (.t 16) (.c (.bool true)) (.t 18), none, 5, []⟩,
        ⟨(some 20), .mov (.t 19), none, 6, []⟩,
        ⟨(some 21), .mov (.t 4), (some ((some 20), true)), 7, []⟩,
        ⟨(some 22), .bin .lss (.t 21) (.c (.int .u8 48)), (some ((some 20), true)), 8, []⟩,
        ⟨(some 23), .mov (.t 22), (some ((some 20), true)), 9, []⟩,
        ⟨(some 24), .mov (.t 4), (some ((some 23), false)), 10, []⟩,
        ⟨(some 25), .bin .gtr (.t 24) (.c (.int .u8 57)), (some ((some 23), false)), 11, []⟩,
        ⟨(some 26), .pick (.t 23) (.c (.bool true)) (.t 25), (some ((some 20), true)), 12, []⟩,
        ⟨(some 27), .pick (.t 20) (.t 26) (.c (.bool false)), none, 13, []⟩,
        ⟨(some 28), .mov (.t 27), none, 14, []⟩,
        ⟨(some 29), .mov (.t 4), (some ((some 28), true)), 15, []⟩,
        ⟨(some 30), .bin .neq (.t 29) (.c (.int .u8 45)), (some ((some 28), true)), 16, []⟩,
        ⟨(some 31), .pick (.t 28) (.t 30) (.c (.bool false)), none, 17, []⟩]))
    (.cond (.t 31)
     (.seq
      (.region 0 ([⟨(some 2), .mov (.c (.bool false)), none, 0, []⟩]))
      (.ret))
     (.skip)))))
 (.region 0 ([⟨(some 9), .mov (.t 3), none, 0, []⟩,
    ⟨(some 10), .bin .add (.t 9) (.c (.int .i64 1)), none, 1, []⟩,
    ⟨(some 3), .mov (.t 10), none, 2, []⟩]))))
def tithingref14_IsName : CFunc := ⟨40,
 (.seq
 (.region 0 ([⟨(some 2), .mov (.c (.bool false)), none, 0, []⟩]))
 (.seq
 (.seq
  (.region 0 ([⟨(some 3), .mov (.c (.int .i64 0)), none, 0, []⟩]))
  (.block 0
   (.loop tithingref14_IsName_l0)))
 (.seq
 (.region 0 ([⟨(some 32), .mov (.t 0), none, 0, []⟩,
     ⟨(some 33), .lenS (.t 32), none, 1, []⟩,
     ⟨(some 34), .bin .geq (.t 33) (.c (.int .i64 1)), none, 2, []⟩,
     ⟨(some 35), .mov (.t 34), none, 3, []⟩,
     ⟨(some 36), .mov (.t 0), (some ((some 35), true)), 4, []⟩,
     ⟨(some 37), .lenS (.t 36), (some ((some 35), true)), 5, []⟩,
     ⟨(some 38), .bin .leq (.t 37) (.c (.int .i64 20)), (some ((some 35), true)), 6, []⟩,
     ⟨(some 39), .pick (.t 35) (.t 38) (.c (.bool false)), none, 7, []⟩,
     ⟨(some 2), .mov (.t 39), none, 8, []⟩]))
 (.ret)))),
 [.tmp 2]⟩
end Code
structure Codes (E : Env) : Prop where
  tithinglaw14_PageNames : Has E 4 Code.tithinglaw14_PageNames
  tithinglaw14_long : Has E 6 Code.tithinglaw14_long
  tithinglaw14_Awake : Has E 7 Code.tithinglaw14_Awake
  page_Parse : Has E 8 Code.page_Parse
  tithingref14_Parse : Has E 9 Code.tithingref14_Parse
  page_Count : Has E 13 Code.page_Count
  page_Needs : Has E 15 Code.page_Needs
  tithingref14_Needs : Has E 16 Code.tithingref14_Needs
  page_Has : Has E 17 Code.page_Has
  tithingref14_Has : Has E 18 Code.tithingref14_Has
  tithingref14_SameTexts : Has E 19 Code.tithingref14_SameTexts
  page_parse : Has E 24 Code.page_parse
  page_clone : Has E 25 Code.page_clone
  tithingref14_Lines : Has E 26 Code.tithingref14_Lines
  _tithing_tithingref14_reader_header : Has E 27 Code._tithing_tithingref14_reader_header
  _tithing_tithingref14_reader_lines : Has E 28 Code._tithing_tithingref14_reader_lines
  _tithing_tithingref14_reader_next : Has E 29 Code._tithing_tithingref14_reader_next
  tithingref14_number : Has E 30 Code.tithingref14_number
  _tithing_tithingref14_reader_trailer : Has E 31 Code._tithing_tithingref14_reader_trailer
  tithingref14_sameLines : Has E 32 Code.tithingref14_sameLines
  page_names : Has E 33 Code.page_names
  tithingref14_names : Has E 34 Code.tithingref14_names
  page_lines : Has E 40 Code.page_lines
  slices_Index_string_string : Has E 41 Code.slices_Index_string_string
  page_comment : Has E 42 Code.page_comment
  page_body : Has E 43 Code.page_body
  slices_ContainsFunc_string_string : Has E 45 Code.slices_ContainsFunc_string_string
  page_parse_1 : Has E 46 Code.page_parse_1
  slices_Clone_string_string : Has E 47 Code.slices_Clone_string_string
  tithingref14_kind : Has E 48 Code.tithingref14_kind
  slices_Contains_string_string : Has E 49 Code.slices_Contains_string_string
  tithingref14_has : Has E 50 Code.tithingref14_has
  page_isNumber : Has E 60 Code.page_isNumber
  page_isName : Has E 61 Code.page_isName
  slices_IndexFunc_string_string : Has E 64 Code.slices_IndexFunc_string_string
  tithingref14_behind : Has E 65 Code.tithingref14_behind
  tithingref14_IsName : Has E 66 Code.tithingref14_IsName
end Go.Ev
