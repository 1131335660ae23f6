/-
  The code of functions as the machine has it, by name; their numbers.
-/
import Derived.Test.YtoinadgkjnbejaaDoorEvPart2
set_option linter.unusedVariables false
namespace Go.Ev
namespace Code
def tithinglaw14_PageBack_l0 : CCode :=
 (.seq
 (.seq
  (.region 0 ([⟨(some 45), .mov (.t 7), none, 0, []⟩,
      ⟨(some 46), .faddr 3 (.t 3), none, 1, []⟩,
      ⟨(some 47), .load1 (.t 46), none, 2, []⟩,
      ⟨(some 48), .lenV (.t 47), none, 3, []⟩,
      ⟨(some 49), .bin .lss (.t 45) (.t 48), none, 4, []⟩]))
  (.cond (.t 49)
   (.skip)
   (.exit 0)))
 (.seq
 (.block 1
   (.region 6 ([⟨(some 52), .mov (.t 6), none, 0, []⟩,
       ⟨(some 53), .mov (.t 7), none, 1, []⟩,
       ⟨(some 54), .bin .add (.t 53) (.c (.int .i64 1)), none, 2, []⟩,
       ⟨(some 55), .buildSlice 3 1 [(.int .i64 0)] [(0, 1, (.t 54))], none, 3, []⟩,
       ⟨(some 56), .append 3 1 8 (.t 52) (.t 55), none, 4, []⟩,
       ⟨(some 6), .mov (.t 56), none, 5, []⟩])))
 (.region 0 ([⟨(some 50), .mov (.t 7), none, 0, []⟩,
    ⟨(some 51), .bin .add (.t 50) (.c (.int .i64 1)), none, 1, []⟩,
    ⟨(some 7), .mov (.t 51), none, 2, []⟩]))))
def tithinglaw14_PageBack : CFunc := ⟨96,
 (.seq
 (.region 0 ([⟨(some 2), .mov (.c (.bool false)), none, 0, []⟩]))
 (.seq
 (.seq
  (.many 0 ([⟨(some 13), .mov (.t 0), none, 0, []⟩] ++
     (⟨(some 14), .callF 6 [(.t 13)], none, 1, []⟩ ::
     ([]))))
  (.cond (.t 14)
   (.seq
    (.many 0 (⟨(some 15), .callF 7 [], none, 0, []⟩ ::
       ([⟨(some 2), .mov (.t 15), none, 1, []⟩])))
    (.ret))
   (.skip)))
 (.seq
 (.many 8 ([⟨(some 17), .mov (.t 0), none, 0, []⟩] ++
    (⟨(some 18), .callF 8 [(.t 17)], none, 1, []⟩ ::
    ([⟨(some 16), .mov (.t 18), none, 2, []⟩,
     ⟨(some 19), .extract (.t 16) 0, none, 3, []⟩,
     ⟨(some 20), .extract (.t 16) 1, none, 4, []⟩,
     ⟨(some 3), .alloc 27 [(.string ⟨⟨[]⟩⟩), (.slice none 0 0), (.slice none 0 0), (.slice none 0 0), (.slice none 0 0)], none, 5, []⟩,
     ⟨none, .store 5 (.t 3) (.t 19), none, 6, []⟩,
     ⟨(some 4), .mov (.t 20), none, 7, []⟩]))))
 (.seq
 (.seq
  (.region 0 ([⟨(some 21), .mov (.t 4), none, 0, []⟩,
      ⟨(some 22), .bin .neq (.t 21) (.c (.int .i64 0)), none, 1, []⟩]))
  (.cond (.t 22)
   (.seq
    (.many 0 ([⟨(some 23), .mov (.t 4), none, 0, []⟩,
        ⟨(some 24), .bin .eql (.t 23) (.c (.int .i64 3)), none, 1, []⟩,
        ⟨(some 25), .mov (.t 24), none, 2, []⟩] ++
       (⟨(some 26), .callF 7 [], (some ((some 25), true)), 3, []⟩ ::
       ([⟨(some 27), .pick (.t 25) (.t 26) (.c (.bool false)), none, 4, []⟩,
        ⟨(some 2), .mov (.t 27), none, 5, []⟩]))))
    (.ret))
   (.skip)))
 (.seq
 (.many 0 ([⟨(some 29), .loadN 5 (.t 3), none, 0, []⟩] ++
    (⟨(some 30), .callF 20 [(.t 29)], none, 1, []⟩ ::
    ([⟨(some 28), .mov (.t 30), none, 2, []⟩,
     ⟨(some 31), .extract (.t 28) 0, none, 3, []⟩,
     ⟨(some 32), .extract (.t 28) 1, none, 4, []⟩,
     ⟨(some 5), .mov (.t 31), none, 5, []⟩,
     ⟨(some 4), .mov (.t 32), none, 6, []⟩]))))
 (.seq
 (.seq
  (.many 0 ([⟨(some 33), .mov (.t 4), none, 0, []⟩,
      ⟨(some 34), .bin .neq (.t 33) (.c (.int .i64 0)), none, 1, []⟩,
      ⟨(some 35), .mov (.t 34), none, 2, []⟩,
      ⟨(some 36), .mov (.t 5), (some ((some 35), false)), 3, []⟩,
      ⟨(some 37), .mov (.t 0), (some ((some 35), false)), 4, []⟩,
      ⟨(some 38), .bin .neq (.t 36) (.t 37), (some ((some 35), false)), 5, []⟩,
      ⟨(some 39), .pick (.t 35) (.c (.bool true)) (.t 38), none, 6, []⟩,
      ⟨(some 40), .mov (.t 39), none, 7, []⟩,
      ⟨(some 41), .loadN 5 (.t 3), (some ((some 40), false)), 8, []⟩] ++
     (⟨(some 42), .callF 21 [(.t 41)], (some ((some 40), false)), 9, []⟩ ::
     ([⟨(some 43), .un .not (.t 42), (some ((some 40), false)), 10, []⟩,
      ⟨(some 44), .pick (.t 40) (.c (.bool true)) (.t 43), none, 11, []⟩]))))
  (.cond (.t 44)
   (.seq
    (.region 0 ([⟨(some 2), .mov (.c (.bool false)), none, 0, []⟩]))
    (.ret))
   (.skip)))
 (.seq
 (.region 0 ([⟨(some 6), .mov (.c (.slice none 0 0)), none, 0, []⟩]))
 (.seq
 (.seq
  (.region 0 ([⟨(some 7), .mov (.c (.int .i64 0)), none, 0, []⟩]))
  (.block 0
   (.loop tithinglaw14_PageBack_l0)))
 (.seq
 (.many 0 ([⟨(some 58), .mov (.t 0), none, 0, []⟩,
     ⟨(some 59), .mov (.t 6), none, 1, []⟩] ++
    (⟨(some 60), .callF 22 [(.t 58), (.t 59)], none, 2, []⟩ ::
    ([⟨(some 57), .mov (.t 60), none, 3, []⟩,
     ⟨(some 61), .extract (.t 57) 0, none, 4, []⟩,
     ⟨(some 62), .extract (.t 57) 1, none, 5, []⟩,
     ⟨(some 8), .mov (.t 61), none, 6, []⟩,
     ⟨(some 4), .mov (.t 62), none, 7, []⟩]))))
 (.seq
 (.many 0 ([⟨(some 64), .mov (.t 0), none, 0, []⟩] ++
    (⟨(some 65), .callF 23 [(.t 64)], none, 1, []⟩ ::
    ([⟨(some 63), .mov (.t 65), none, 2, []⟩,
     ⟨(some 66), .extract (.t 63) 0, none, 3, []⟩,
     ⟨(some 67), .extract (.t 63) 1, none, 4, []⟩,
     ⟨(some 9), .mov (.t 66), none, 5, []⟩,
     ⟨(some 10), .mov (.t 67), none, 6, []⟩]))))
 (.seq
 (.many 0 ([⟨(some 69), .mov (.t 9), none, 0, []⟩] ++
    (⟨(some 70), .callF 23 [(.t 69)], none, 1, []⟩ ::
    ([⟨(some 68), .mov (.t 70), none, 2, []⟩,
     ⟨(some 71), .extract (.t 68) 0, none, 3, []⟩,
     ⟨(some 72), .extract (.t 68) 1, none, 4, []⟩,
     ⟨(some 11), .mov (.t 71), none, 5, []⟩,
     ⟨(some 12), .mov (.t 72), none, 6, []⟩]))))
 (.seq
 (.many 0 ([⟨(some 73), .mov (.t 8), none, 0, []⟩,
     ⟨(some 74), .mov (.t 0), none, 1, []⟩,
     ⟨(some 75), .bin .eql (.t 73) (.t 74), none, 2, []⟩,
     ⟨(some 76), .mov (.t 75), none, 3, []⟩,
     ⟨(some 77), .mov (.t 4), (some ((some 76), true)), 4, []⟩,
     ⟨(some 78), .bin .eql (.t 77) (.c (.int .i64 0)), (some ((some 76), true)), 5, []⟩,
     ⟨(some 79), .pick (.t 76) (.t 78) (.c (.bool false)), none, 6, []⟩,
     ⟨(some 80), .mov (.t 79), none, 7, []⟩,
     ⟨(some 81), .mov (.t 10), (some ((some 80), true)), 8, []⟩,
     ⟨(some 82), .bin .eql (.t 81) (.c (.int .i64 0)), (some ((some 80), true)), 9, []⟩,
     ⟨(some 83), .pick (.t 80) (.t 82) (.c (.bool false)), none, 10, []⟩,
     ⟨(some 84), .mov (.t 83), none, 11, []⟩,
     ⟨(some 85), .mov (.t 11), (some ((some 84), true)), 12, []⟩,
     ⟨(some 86), .mov (.t 0), (some ((some 84), true)), 13, []⟩,
     ⟨(some 87), .bin .eql (.t 85) (.t 86), (some ((some 84), true)), 14, []⟩,
     ⟨(some 88), .pick (.t 84) (.t 87) (.c (.bool false)), none, 15, []⟩,
     ⟨(some 89), .mov (.t 88), none, 16, []⟩,
     ⟨(some 90), .mov (.t 12), (some ((some 89), true)), 17, []⟩,
     ⟨(some 91), .bin .eql (.t 90) (.c (.int .i64 0)), (some ((some 89), true)), 18, []⟩,
     ⟨(some 92), .pick (.t 89) (.t 91) (.c (.bool false)), none, 19, []⟩,
     ⟨(some 93), .mov (.t 92), none, 20, []⟩] ++
    (⟨(some 94), .callF 7 [], (some ((some 93), true)), 21, []⟩ ::
    ([⟨(some 95), .pick (.t 93) (.t 94) (.c (.bool false)), none, 22, []⟩,
     ⟨(some 2), .mov (.t 95), none, 23, []⟩]))))
 (.ret))))))))))))),
 [.tmp 2]⟩
def tithinglaw14_long : CFunc := ⟨6,
 (.seq
 (.region 0 ([⟨(some 2), .mov (.c (.bool false)), none, 0, []⟩]))
 (.seq
 (.region 0 ([⟨(some 3), .mov (.t 0), none, 0, []⟩,
     ⟨(some 4), .lenS (.t 3), none, 1, []⟩,
     ⟨(some 5), .bin .gtr (.t 4) (.c (.int .i64 30000)), none, 2, []⟩,
     ⟨(some 2), .mov (.t 5), none, 3, []⟩]))
 (.ret))),
 [.tmp 2]⟩
def tithinglaw14_Awake : CFunc := ⟨13,
 (.seq
 (.region 0 ([⟨(some 0), .mov (.c (.bool false)), none, 0, []⟩]))
 (.seq
 (.many 0 (⟨(some 4), .callF 13 [(.c (.string ⟨⟨[37, 33, 68, 111, 99, 10, 37, 37, 69, 110, 100, 72, 101, 97, 100, 101, 114, 10, 37, 37, 80, 97, 103, 101, 58, 32, 49, 10, 120, 10, 37, 37, 84, 114, 97, 105, 108, 101, 114, 10, 37, 37, 69, 79, 70, 10]⟩⟩))], none, 0, []⟩ ::
    ([⟨(some 3), .mov (.t 4), none, 1, []⟩,
     ⟨(some 5), .extract (.t 3) 0, none, 2, []⟩,
     ⟨(some 6), .extract (.t 3) 1, none, 3, []⟩,
     ⟨(some 1), .mov (.t 5), none, 4, []⟩,
     ⟨(some 2), .mov (.t 6), none, 5, []⟩])))
 (.seq
 (.region 0 ([⟨(some 7), .mov (.t 1), none, 0, []⟩,
     ⟨(some 8), .bin .eql (.t 7) (.c (.int .i64 1)), none, 1, []⟩,
     ⟨(some 9), .mov (.t 8), none, 2, []⟩,
     ⟨(some 10), .mov (.t 2), (some ((some 9), true)), 3, []⟩,
     ⟨(some 11), .bin .eql (.t 10) (.c (.int .i64 0)), (some ((some 9), true)), 4, []⟩,
     ⟨(some 12), .pick (.t 9) (.t 11) (.c (.bool false)), none, 5, []⟩,
     ⟨(some 0), .mov (.t 12), none, 6, []⟩]))
 (.ret)))),
 [.tmp 0]⟩
def page_Parse : CFunc := ⟨16,
 (.seq
 (.region 2 ([⟨(some 2), .alloc 27 [(.string ⟨⟨[]⟩⟩), (.slice none 0 0), (.slice none 0 0), (.slice none 0 0), (.slice none 0 0)], none, 0, []⟩,
     ⟨(some 3), .mov (.c (.int .i64 0)), none, 1, []⟩]))
 (.seq
 (.many 8 ([⟨(some 7), .mov (.t 0), none, 0, []⟩] ++
    (⟨(some 8), .callF 24 [(.t 7)], none, 1, []⟩ ::
    ([⟨(some 6), .mov (.t 8), none, 2, []⟩,
     ⟨(some 9), .extract (.t 6) 0, none, 3, []⟩,
     ⟨(some 10), .extract (.t 6) 1, none, 4, []⟩,
     ⟨(some 4), .alloc 27 [(.string ⟨⟨[]⟩⟩), (.slice none 0 0), (.slice none 0 0), (.slice none 0 0), (.slice none 0 0)], none, 5, []⟩,
     ⟨none, .store 5 (.t 4) (.t 9), none, 6, []⟩,
     ⟨(some 5), .mov (.t 10), none, 7, []⟩]))))
 (.seq
 (.seq
  (.region 0 ([⟨(some 11), .mov (.t 5), none, 0, []⟩,
      ⟨(some 12), .un .not (.t 11), none, 1, []⟩]))
  (.cond (.t 12)
   (.seq
    (.region 0 ([⟨(some 13), .build [(.string ⟨⟨[]⟩⟩), (.slice none 0 0), (.slice none 0 0), (.slice none 0 0), (.slice none 0 0)] [], none, 0, []⟩,
        ⟨none, .store 5 (.t 2) (.t 13), none, 1, []⟩,
        ⟨(some 3), .mov (.c (.int .i64 3)), none, 2, []⟩]))
    (.ret))
   (.skip)))
 (.seq
 (.many 0 ([⟨(some 14), .loadN 5 (.t 4), none, 0, []⟩] ++
    (⟨(some 15), .callF 25 [(.t 14)], none, 1, []⟩ ::
    ([⟨none, .store 5 (.t 2) (.t 15), none, 2, []⟩,
     ⟨(some 3), .mov (.c (.int .i64 0)), none, 3, []⟩]))))
 (.ret))))),
 [.cell 2 true 5, .tmp 3]⟩
def page_Count : CFunc := ⟨15,
 (.seq
 (.region 0 ([⟨(some 2), .mov (.c (.int .i64 0)), none, 0, []⟩,
     ⟨(some 3), .mov (.c (.int .i64 0)), none, 1, []⟩]))
 (.seq
 (.many 8 ([⟨(some 7), .mov (.t 0), none, 0, []⟩] ++
    (⟨(some 8), .callF 8 [(.t 7)], none, 1, []⟩ ::
    ([⟨(some 6), .mov (.t 8), none, 2, []⟩,
     ⟨(some 9), .extract (.t 6) 0, none, 3, []⟩,
     ⟨(some 10), .extract (.t 6) 1, none, 4, []⟩,
     ⟨(some 4), .alloc 27 [(.string ⟨⟨[]⟩⟩), (.slice none 0 0), (.slice none 0 0), (.slice none 0 0), (.slice none 0 0)], none, 5, []⟩,
     ⟨none, .store 5 (.t 4) (.t 9), none, 6, []⟩,
     ⟨(some 5), .mov (.t 10), none, 7, []⟩]))))
 (.seq
 (.region 0 ([⟨(some 11), .faddr 3 (.t 4), none, 0, []⟩,
     ⟨(some 12), .load1 (.t 11), none, 1, []⟩,
     ⟨(some 13), .lenV (.t 12), none, 2, []⟩,
     ⟨(some 14), .mov (.t 5), none, 3, []⟩,
     ⟨(some 2), .mov (.t 13), none, 4, []⟩,
     ⟨(some 3), .mov (.t 14), none, 5, []⟩]))
 (.ret)))),
 [.tmp 2, .tmp 3]⟩
def page_Format : CFunc := ⟨9,
 (.seq
 (.region 3 ([⟨(some 1), .box 27 (.t 0), none, 0, []⟩,
     ⟨(some 2), .mov (.c (.string ⟨⟨[]⟩⟩)), none, 1, []⟩,
     ⟨(some 3), .mov (.c (.int .i64 0)), none, 2, []⟩]))
 (.seq
 (.seq
  (.many 0 ([⟨(some 4), .loadN 5 (.t 1), none, 0, []⟩] ++
     (⟨(some 5), .callF 21 [(.t 4)], none, 1, []⟩ ::
     ([⟨(some 6), .un .not (.t 5), none, 2, []⟩]))))
  (.cond (.t 6)
   (.seq
    (.region 0 ([⟨(some 2), .mov (.c (.string ⟨⟨[]⟩⟩)), none, 0, []⟩,
        ⟨(some 3), .mov (.c (.int .i64 2)), none, 1, []⟩]))
    (.ret))
   (.skip)))
 (.seq
 (.many 0 ([⟨(some 7), .loadN 5 (.t 1), none, 0, []⟩] ++
    (⟨(some 8), .callF 35 [(.t 7)], none, 1, []⟩ ::
    ([⟨(some 2), .mov (.t 8), none, 2, []⟩,
     ⟨(some 3), .mov (.c (.int .i64 0)), none, 3, []⟩]))))
 (.ret)))),
 [.tmp 2, .tmp 3]⟩
def page_Valid : CFunc := ⟨17,
 (.seq
 (.region 2 ([⟨(some 1), .box 27 (.t 0), none, 0, []⟩,
     ⟨(some 2), .mov (.c (.bool false)), none, 1, []⟩]))
 (.seq
 (.many 9 ([⟨(some 6), .loadN 5 (.t 1), none, 0, []⟩] ++
    (⟨(some 7), .callF 35 [(.t 6)], none, 1, []⟩ ::
    (⟨(some 8), .callF 24 [(.t 7)], none, 2, []⟩ ::
    ([⟨(some 5), .mov (.t 8), none, 3, []⟩,
     ⟨(some 9), .extract (.t 5) 0, none, 4, []⟩,
     ⟨(some 10), .extract (.t 5) 1, none, 5, []⟩,
     ⟨(some 3), .alloc 27 [(.string ⟨⟨[]⟩⟩), (.slice none 0 0), (.slice none 0 0), (.slice none 0 0), (.slice none 0 0)], none, 6, []⟩,
     ⟨none, .store 5 (.t 3) (.t 9), none, 7, []⟩,
     ⟨(some 4), .mov (.t 10), none, 8, []⟩])))))
 (.seq
 (.many 0 ([⟨(some 11), .mov (.t 4), none, 0, []⟩,
     ⟨(some 12), .mov (.t 11), none, 1, []⟩,
     ⟨(some 13), .loadN 5 (.t 3), (some ((some 12), true)), 2, []⟩,
     ⟨(some 14), .loadN 5 (.t 1), (some ((some 12), true)), 3, []⟩] ++
    (⟨(some 15), .callF 36 [(.t 13), (.t 14)], (some ((some 12), true)), 4, []⟩ ::
    ([⟨(some 16), .pick (.t 12) (.t 15) (.c (.bool false)), none, 5, []⟩,
     ⟨(some 2), .mov (.t 16), none, 6, []⟩]))))
 (.ret)))),
 [.tmp 2]⟩
def page_Pick : CFunc := ⟨31,
 (.seq
 (.region 0 ([⟨(some 4), .mov (.c (.string ⟨⟨[]⟩⟩)), none, 0, []⟩,
     ⟨(some 5), .mov (.c (.int .i64 0)), none, 1, []⟩]))
 (.seq
 (.many 8 ([⟨(some 10), .mov (.t 0), none, 0, []⟩] ++
    (⟨(some 11), .callF 8 [(.t 10)], none, 1, []⟩ ::
    ([⟨(some 9), .mov (.t 11), none, 2, []⟩,
     ⟨(some 12), .extract (.t 9) 0, none, 3, []⟩,
     ⟨(some 13), .extract (.t 9) 1, none, 4, []⟩,
     ⟨(some 6), .alloc 27 [(.string ⟨⟨[]⟩⟩), (.slice none 0 0), (.slice none 0 0), (.slice none 0 0), (.slice none 0 0)], none, 5, []⟩,
     ⟨none, .store 5 (.t 6) (.t 12), none, 6, []⟩,
     ⟨(some 7), .mov (.t 13), none, 7, []⟩]))))
 (.seq
 (.seq
  (.region 0 ([⟨(some 14), .mov (.t 7), none, 0, []⟩,
      ⟨(some 15), .bin .neq (.t 14) (.c (.int .i64 0)), none, 1, []⟩]))
  (.cond (.t 15)
   (.seq
    (.region 0 ([⟨(some 16), .mov (.t 7), none, 0, []⟩,
        ⟨(some 4), .mov (.c (.string ⟨⟨[]⟩⟩)), none, 1, []⟩,
        ⟨(some 5), .mov (.t 16), none, 2, []⟩]))
    (.ret))
   (.skip)))
 (.seq
 (.many 0 ([⟨(some 17), .mov (.t 1), none, 0, []⟩,
     ⟨(some 18), .mkFunc (.func 38) [] [(.t 6)], none, 1, []⟩] ++
    (⟨(some 19), .callF 37 [(.t 17), (.t 18)], none, 2, []⟩ ::
    ([⟨(some 8), .mov (.t 19), none, 3, []⟩]))))
 (.seq
 (.seq
  (.region 0 ([⟨(some 20), .mov (.t 8), none, 0, []⟩,
      ⟨(some 21), .mov (.t 20), none, 1, []⟩,
      ⟨(some 22), .mov (.t 1), (some ((some 21), false)), 2, []⟩,
      ⟨(some 23), .lenV (.t 22), (some ((some 21), false)), 3, []⟩,
      ⟨(some 24), .bin .gtr (.t 23) (.c (.int .i64 999)), (some ((some 21), false)), 4, []⟩,
      ⟨(some 25), .pick (.t 21) (.c (.bool true)) (.t 24), none, 5, []⟩]))
  (.cond (.t 25)
   (.seq
    (.region 0 ([⟨(some 4), .mov (.c (.string ⟨⟨[]⟩⟩)), none, 0, []⟩,
        ⟨(some 5), .mov (.c (.int .i64 2)), none, 1, []⟩]))
    (.ret))
   (.skip)))
 (.seq
 (.many 0 ([⟨(some 26), .loadN 5 (.t 6), none, 0, []⟩,
     ⟨(some 27), .mov (.t 1), none, 1, []⟩] ++
    (⟨(some 28), .callF 39 [(.t 26), (.t 27)], none, 2, []⟩ ::
    ([⟨(some 29), .extract (.t 28) 0, none, 3, []⟩,
     ⟨(some 30), .extract (.t 28) 1, none, 4, []⟩,
     ⟨(some 4), .mov (.t 29), none, 5, []⟩,
     ⟨(some 5), .mov (.t 30), none, 6, []⟩]))))
 (.ret))))))),
 [.tmp 4, .tmp 5]⟩
def page_Reverse_l0 : CCode :=
 (.seq
 (.seq
  (.region 0 ([⟨(some 19), .mov (.t 7), none, 0, []⟩,
      ⟨(some 20), .bin .gtr (.t 19) (.c (.int .i64 0)), none, 1, []⟩]))
  (.cond (.t 20)
   (.skip)
   (.exit 0)))
 (.seq
 (.block 1
   (.region 5 ([⟨(some 23), .mov (.t 6), none, 0, []⟩,
       ⟨(some 24), .mov (.t 7), none, 1, []⟩,
       ⟨(some 25), .buildSlice 3 1 [(.int .i64 0)] [(0, 1, (.t 24))], none, 2, []⟩,
       ⟨(some 26), .append 3 1 8 (.t 23) (.t 25), none, 3, []⟩,
       ⟨(some 6), .mov (.t 26), none, 4, []⟩])))
 (.region 0 ([⟨(some 21), .mov (.t 7), none, 0, []⟩,
    ⟨(some 22), .bin .sub (.t 21) (.c (.int .i64 1)), none, 1, []⟩,
    ⟨(some 7), .mov (.t 22), none, 2, []⟩]))))
def page_Reverse : CFunc := ⟨32,
 (.seq
 (.region 0 ([⟨(some 2), .mov (.c (.string ⟨⟨[]⟩⟩)), none, 0, []⟩,
     ⟨(some 3), .mov (.c (.int .i64 0)), none, 1, []⟩]))
 (.seq
 (.many 8 ([⟨(some 9), .mov (.t 0), none, 0, []⟩] ++
    (⟨(some 10), .callF 8 [(.t 9)], none, 1, []⟩ ::
    ([⟨(some 8), .mov (.t 10), none, 2, []⟩,
     ⟨(some 11), .extract (.t 8) 0, none, 3, []⟩,
     ⟨(some 12), .extract (.t 8) 1, none, 4, []⟩,
     ⟨(some 4), .alloc 27 [(.string ⟨⟨[]⟩⟩), (.slice none 0 0), (.slice none 0 0), (.slice none 0 0), (.slice none 0 0)], none, 5, []⟩,
     ⟨none, .store 5 (.t 4) (.t 11), none, 6, []⟩,
     ⟨(some 5), .mov (.t 12), none, 7, []⟩]))))
 (.seq
 (.seq
  (.region 0 ([⟨(some 13), .mov (.t 5), none, 0, []⟩,
      ⟨(some 14), .bin .neq (.t 13) (.c (.int .i64 0)), none, 1, []⟩]))
  (.cond (.t 14)
   (.seq
    (.region 0 ([⟨(some 15), .mov (.t 5), none, 0, []⟩,
        ⟨(some 2), .mov (.c (.string ⟨⟨[]⟩⟩)), none, 1, []⟩,
        ⟨(some 3), .mov (.t 15), none, 2, []⟩]))
    (.ret))
   (.skip)))
 (.seq
 (.region 0 ([⟨(some 6), .mov (.c (.slice none 0 0)), none, 0, []⟩]))
 (.seq
 (.seq
  (.region 0 ([⟨(some 16), .faddr 3 (.t 4), none, 0, []⟩,
      ⟨(some 17), .load1 (.t 16), none, 1, []⟩,
      ⟨(some 18), .lenV (.t 17), none, 2, []⟩,
      ⟨(some 7), .mov (.t 18), none, 3, []⟩]))
  (.block 0
   (.loop page_Reverse_l0)))
 (.seq
 (.many 0 ([⟨(some 27), .loadN 5 (.t 4), none, 0, []⟩,
     ⟨(some 28), .mov (.t 6), none, 1, []⟩] ++
    (⟨(some 29), .callF 39 [(.t 27), (.t 28)], none, 2, []⟩ ::
    ([⟨(some 30), .extract (.t 29) 0, none, 3, []⟩,
     ⟨(some 31), .extract (.t 29) 1, none, 4, []⟩,
     ⟨(some 2), .mov (.t 30), none, 5, []⟩,
     ⟨(some 3), .mov (.t 31), none, 6, []⟩]))))
 (.ret))))))),
 [.tmp 2, .tmp 3]⟩
def page_parse_l0 : CCode :=
 (.seq
 (.region 0 ([⟨(some 70), .bin .lss (.t 69) (.t 68), none, 0, []⟩]))
 (.seq
 (.cond (.t 70)
   (.skip)
   (.exit 0))
 (.seq
 (.block 1
   (.seq
    (.region 0 ([⟨(some 71), .iaddrV 1 (.t 67) (.t 69), none, 0, []⟩,
        ⟨(some 72), .load1 (.t 71), none, 1, []⟩,
        ⟨(some 11), .mov (.t 72), none, 2, []⟩]))
    (.seq
    (.many 0 ([⟨(some 74), .mov (.t 11), none, 0, []⟩] ++
       (⟨(some 75), .callF 42 [(.t 74)], none, 1, []⟩ ::
       ([⟨(some 73), .mov (.t 75), none, 2, []⟩,
        ⟨(some 76), .extract (.t 73) 0, none, 3, []⟩,
        ⟨(some 77), .extract (.t 73) 1, none, 4, []⟩,
        ⟨(some 12), .mov (.t 76), none, 5, []⟩,
        ⟨(some 13), .mov (.t 77), none, 6, []⟩]))))
    (.seq
    (.region 0 ([⟨(some 78), .mov (.t 12), none, 0, []⟩]))
    (.block 2
     (.seq
      (.region 0 ([⟨(some 81), .bin .eql (.t 78) (.c (.string ⟨⟨[37, 37, 84, 105, 116, 108, 101, 58, 32]⟩⟩)), none, 0, []⟩,
          ⟨(some 80), .mov (.t 81), none, 1, []⟩]))
      (.cond (.t 80)
       (.seq
        (.region 0 ([⟨(some 82), .mov (.t 13), none, 0, []⟩,
            ⟨(some 83), .faddr 0 (.t 2), none, 1, []⟩,
            ⟨none, .store 1 (.t 83) (.t 82), none, 2, []⟩]))
        (.region 0 ([⟨(some 84), .mov (.t 8), none, 0, []⟩,
           ⟨(some 85), .bin .add (.t 84) (.c (.int .i64 1)), none, 1, []⟩,
           ⟨(some 8), .mov (.t 85), none, 2, []⟩])))
       (.seq
        (.region 0 ([⟨(some 87), .bin .eql (.t 78) (.c (.string ⟨⟨[37, 37, 80, 97, 103, 101, 115, 58, 32]⟩⟩)), none, 0, []⟩,
            ⟨(some 86), .mov (.t 87), none, 1, []⟩]))
        (.cond (.t 86)
         (.seq
          (.region 0 ([⟨(some 88), .mov (.t 13), none, 0, []⟩,
              ⟨(some 7), .mov (.t 88), none, 1, []⟩]))
          (.region 0 ([⟨(some 89), .mov (.t 9), none, 0, []⟩,
             ⟨(some 90), .bin .add (.t 89) (.c (.int .i64 1)), none, 1, []⟩,
             ⟨(some 9), .mov (.t 90), none, 2, []⟩])))
         (.seq
          (.region 0 ([⟨(some 92), .bin .eql (.t 78) (.c (.string ⟨⟨[]⟩⟩)), none, 0, []⟩,
              ⟨(some 91), .mov (.t 92), none, 1, []⟩]))
          (.cond (.t 91)
           (.skip)
           (.seq
            (.region 0 ([⟨(some 79), .loadN 5 (.t 2), none, 0, []⟩,
                ⟨none, .store 5 (.t 2) (.t 79), none, 1, []⟩,
                ⟨(some 3), .mov (.c (.bool false)), none, 2, []⟩]))
            (.ret)))))))))))))
 (.region 0 ([⟨(some 93), .bin .add (.t 69) (.c (.int .i64 1)), none, 0, []⟩,
    ⟨(some 69), .mov (.t 93), none, 1, []⟩])))))
def page_parse_l1 : CCode :=
 (.seq
 (.seq
  (.region 0 ([⟨(some 106), .mov (.t 3), none, 0, []⟩,
      ⟨(some 107), .mov (.t 106), none, 1, []⟩,
      ⟨(some 108), .mov (.t 4), (some ((some 107), true)), 2, []⟩,
      ⟨(some 109), .lenV (.t 108), (some ((some 107), true)), 3, []⟩,
      ⟨(some 110), .bin .gtr (.t 109) (.c (.int .i64 0)), (some ((some 107), true)), 4, []⟩,
      ⟨(some 111), .pick (.t 107) (.t 110) (.c (.bool false)), none, 5, []⟩,
      ⟨(some 112), .mov (.t 111), none, 6, []⟩,
      ⟨(some 113), .mov (.t 4), (some ((some 112), true)), 7, []⟩,
      ⟨(some 114), .iaddrV 1 (.t 113) (.c (.int .i64 0)), (some ((some 112), true)), 8, []⟩,
      ⟨(some 115), .load1 (.t 114), (some ((some 112), true)), 9, []⟩,
      ⟨(some 116), .faddr 3 (.t 2), (some ((some 112), true)), 10, []⟩,
      ⟨(some 117), .load1 (.t 116), (some ((some 112), true)), 11, []⟩,
      ⟨(some 118), .lenV (.t 117), (some ((some 112), true)), 12, []⟩,
      ⟨(some 119), .bin .add (.t 118) (.c (.int .i64 1)), (some ((some 112), true)), 13, []⟩] ++
     (⟨(some 120), .callF 44 [(.t 119)], (some ((some 112), true)), 14, [((some 115), .load1 (.t 114), (some ((some 112), true)))]⟩ ::
     ([⟨(some 121), .bin .add (.c (.string ⟨⟨[37, 37, 80, 97, 103, 101, 58, 32]⟩⟩)) (.t 120), (some ((some 112), true)), 15, []⟩,
      ⟨(some 122), .bin .eql (.t 115) (.t 121), (some ((some 112), true)), 16, []⟩,
      ⟨(some 123), .pick (.t 112) (.t 122) (.c (.bool false)), none, 17, []⟩]))))
  (.cond (.t 123)
   (.skip)
   (.exit 3)))
 (.block 4
  (.seq
   (.many 0 ([⟨(some 125), .mov (.t 4), none, 0, []⟩,
       ⟨(some 126), .sliceV 1 (.t 125) (some (.c (.int .i64 1))) none none, none, 1, []⟩] ++
      (⟨(some 127), .callF 43 [(.t 126)], none, 2, []⟩ ::
      ([⟨(some 124), .mov (.t 127), none, 3, []⟩,
       ⟨(some 128), .extract (.t 124) 0, none, 4, []⟩,
       ⟨(some 129), .extract (.t 124) 1, none, 5, []⟩,
       ⟨(some 14), .mov (.t 128), none, 6, []⟩,
       ⟨(some 3), .mov (.t 129), none, 7, []⟩]))))
   (.region 15 ([⟨(some 130), .faddr 3 (.t 2), none, 0, []⟩,
      ⟨(some 131), .load1 (.t 130), none, 1, []⟩,
      ⟨(some 132), .mov (.t 4), none, 2, []⟩,
      ⟨(some 133), .mov (.t 14), none, 3, []⟩,
      ⟨(some 134), .bin .add (.t 133) (.c (.int .i64 1)), none, 4, []⟩,
      ⟨(some 135), .sliceV 1 (.t 132) (some (.c (.int .i64 1))) (some (.t 134)) none, none, 5, []⟩,
      ⟨(some 138), .mov (.t 4), none, 8, []⟩,
      ⟨(some 139), .mov (.t 14), none, 9, []⟩,
      ⟨(some 140), .bin .add (.t 139) (.c (.int .i64 1)), none, 10, []⟩,
      ⟨(some 141), .sliceV 1 (.t 138) (some (.t 140)) none none, none, 11, []⟩,
      ⟨(some 136), .buildSlice 24 1 [(.slice none 0 0)] [(0, 1, (.t 135))], none, 6, []⟩,
      ⟨(some 137), .append 24 1 24 (.t 131) (.t 136), none, 7, [((some 141), .sliceV 1 (.t 138) (some (.t 140)) none none, none)]⟩,
      ⟨(some 142), .faddr 3 (.t 2), none, 12, []⟩,
      ⟨none, .store 1 (.t 142) (.t 137), none, 13, [((some 141), .sliceV 1 (.t 138) (some (.t 140)) none none, none)]⟩,
      ⟨(some 4), .mov (.t 141), none, 14, []⟩])))))
def page_parse : CFunc := ⟨185,
 (.seq
 (.region 2 ([⟨(some 2), .alloc 27 [(.string ⟨⟨[]⟩⟩), (.slice none 0 0), (.slice none 0 0), (.slice none 0 0), (.slice none 0 0)], none, 0, []⟩,
     ⟨(some 3), .mov (.c (.bool false)), none, 1, []⟩]))
 (.seq
 (.many 0 ([⟨(some 16), .mov (.t 0), none, 0, []⟩] ++
    (⟨(some 17), .callF 40 [(.t 16)], none, 1, []⟩ ::
    ([⟨(some 15), .mov (.t 17), none, 2, []⟩,
     ⟨(some 18), .extract (.t 15) 0, none, 3, []⟩,
     ⟨(some 19), .extract (.t 15) 1, none, 4, []⟩,
     ⟨(some 4), .mov (.t 18), none, 5, []⟩,
     ⟨(some 5), .mov (.t 19), none, 6, []⟩]))))
 (.seq
 (.seq
  (.region 0 ([⟨(some 20), .mov (.t 0), none, 0, []⟩,
      ⟨(some 21), .lenS (.t 20), none, 1, []⟩,
      ⟨(some 22), .bin .gtr (.t 21) (.c (.int .i64 20000)), none, 2, []⟩,
      ⟨(some 23), .mov (.t 22), none, 3, []⟩,
      ⟨(some 24), .mov (.t 5), (some ((some 23), false)), 4, []⟩,
      ⟨(some 25), .un .not (.t 24), (some ((some 23), false)), 5, []⟩,
      ⟨(some 26), .pick (.t 23) (.c (.bool true)) (.t 25), none, 6, []⟩,
      ⟨(some 27), .mov (.t 26), none, 7, []⟩,
      ⟨(some 28), .mov (.t 4), (some ((some 27), false)), 8, []⟩,
      ⟨(some 29), .lenV (.t 28), (some ((some 27), false)), 9, []⟩,
      ⟨(some 30), .bin .lss (.t 29) (.c (.int .i64 4)), (some ((some 27), false)), 10, []⟩,
      ⟨(some 31), .pick (.t 27) (.c (.bool true)) (.t 30), none, 11, []⟩,
      ⟨(some 32), .mov (.t 31), none, 12, []⟩,
      ⟨(some 33), .mov (.t 4), (some ((some 32), false)), 13, []⟩,
      ⟨(some 34), .iaddrV 1 (.t 33) (.c (.int .i64 0)), (some ((some 32), false)), 14, []⟩,
      ⟨(some 35), .load1 (.t 34), (some ((some 32), false)), 15, []⟩,
      ⟨(some 36), .bin .neq (.t 35) (.c (.string ⟨⟨[37, 33, 68, 111, 99]⟩⟩)), (some ((some 32), false)), 16, []⟩,
      ⟨(some 37), .pick (.t 32) (.c (.bool true)) (.t 36), none, 17, []⟩,
      ⟨(some 38), .mov (.t 37), none, 18, []⟩,
      ⟨(some 39), .mov (.t 4), (some ((some 38), false)), 19, []⟩,
      ⟨(some 40), .mov (.t 4), (some ((some 38), false)), 20, []⟩,
      ⟨(some 41), .lenV (.t 40), (some ((some 38), false)), 21, []⟩,
      ⟨(some 42), .bin .sub (.t 41) (.c (.int .i64 1)), (some ((some 38), false)), 22, []⟩,
      ⟨(some 43), .iaddrV 1 (.t 39) (.t 42), (some ((some 38), false)), 23, []⟩,
      ⟨(some 44), .load1 (.t 43), (some ((some 38), false)), 24, []⟩,
      ⟨(some 45), .bin .neq (.t 44) (.c (.string ⟨⟨[37, 37, 69, 79, 70]⟩⟩)), (some ((some 38), false)), 25, []⟩,
      ⟨(some 46), .pick (.t 38) (.c (.bool true)) (.t 45), none, 26, []⟩]))
  (.cond (.t 46)
   (.seq
    (.region 0 ([⟨(some 47), .loadN 5 (.t 2), none, 0, []⟩,
        ⟨none, .store 5 (.t 2) (.t 47), none, 1, []⟩,
        ⟨(some 3), .mov (.c (.bool false)), none, 2, []⟩]))
    (.ret))
   (.skip)))
 (.seq
 (.region 0 ([⟨(some 48), .mov (.t 4), none, 0, []⟩,
     ⟨(some 49), .mov (.t 4), none, 1, []⟩,
     ⟨(some 50), .lenV (.t 49), none, 2, []⟩,
     ⟨(some 51), .bin .sub (.t 50) (.c (.int .i64 1)), none, 3, []⟩,
     ⟨(some 52), .sliceV 1 (.t 48) (some (.c (.int .i64 1))) (some (.t 51)) none, none, 4, []⟩,
     ⟨(some 4), .mov (.t 52), none, 5, []⟩]))
 (.seq
 (.many 0 ([⟨(some 53), .mov (.t 4), none, 0, []⟩] ++
    (⟨(some 54), .callF 41 [(.t 53), (.c (.string ⟨⟨[37, 37, 69, 110, 100, 72, 101, 97, 100, 101, 114]⟩⟩))], none, 1, []⟩ ::
    ([⟨(some 6), .mov (.t 54), none, 2, []⟩]))))
 (.seq
 (.seq
  (.region 0 ([⟨(some 55), .mov (.t 6), none, 0, []⟩,
      ⟨(some 56), .bin .lss (.t 55) (.c (.int .i64 0)), none, 1, []⟩]))
  (.cond (.t 56)
   (.seq
    (.region 0 ([⟨(some 57), .loadN 5 (.t 2), none, 0, []⟩,
        ⟨none, .store 5 (.t 2) (.t 57), none, 1, []⟩,
        ⟨(some 3), .mov (.c (.bool false)), none, 2, []⟩]))
    (.ret))
   (.skip)))
 (.seq
 (.region 0 ([⟨(some 58), .mov (.t 4), none, 0, []⟩,
     ⟨(some 59), .mov (.t 6), none, 1, []⟩,
     ⟨(some 60), .sliceV 1 (.t 58) none (some (.t 59)) none, none, 2, []⟩,
     ⟨(some 61), .mov (.t 4), none, 3, []⟩,
     ⟨(some 62), .mov (.t 6), none, 4, []⟩,
     ⟨(some 63), .bin .add (.t 62) (.c (.int .i64 1)), none, 5, []⟩,
     ⟨(some 64), .sliceV 1 (.t 61) (some (.t 63)) none none, none, 6, []⟩,
     ⟨(some 65), .faddr 1 (.t 2), none, 7, []⟩,
     ⟨none, .store 1 (.t 65) (.t 60), none, 8, [((some 64), .sliceV 1 (.t 61) (some (.t 63)) none none, none)]⟩,
     ⟨(some 4), .mov (.t 64), none, 9, []⟩]))
 (.seq
 (.region 0 ([⟨(some 7), .mov (.c (.string ⟨⟨[]⟩⟩)), none, 0, []⟩]))
 (.seq
 (.region 0 ([⟨(some 8), .mov (.c (.int .i64 0)), none, 0, []⟩,
     ⟨(some 9), .mov (.c (.int .i64 0)), none, 1, []⟩]))
 (.seq
 (.seq
  (.region 0 ([⟨(some 66), .faddr 1 (.t 2), none, 0, []⟩,
      ⟨(some 67), .load1 (.t 66), none, 1, []⟩,
      ⟨(some 68), .lenV (.t 67), none, 2, []⟩,
      ⟨(some 69), .mov (.c (.int .i64 0)), none, 3, []⟩]))
  (.block 0
   (.loop page_parse_l0)))
 (.seq
 (.many 0 ([⟨(some 95), .mov (.t 4), none, 0, []⟩] ++
    (⟨(some 96), .callF 43 [(.t 95)], none, 1, []⟩ ::
    ([⟨(some 94), .mov (.t 96), none, 2, []⟩,
     ⟨(some 97), .extract (.t 94) 0, none, 3, []⟩,
     ⟨(some 98), .extract (.t 94) 1, none, 4, []⟩,
     ⟨(some 14), .mov (.t 97), none, 5, []⟩,
     ⟨(some 3), .mov (.t 98), none, 6, []⟩]))))
 (.seq
 (.region 0 ([⟨(some 99), .mov (.t 4), none, 0, []⟩,
     ⟨(some 100), .mov (.t 14), none, 1, []⟩,
     ⟨(some 101), .sliceV 1 (.t 99) none (some (.t 100)) none, none, 2, []⟩,
     ⟨(some 102), .mov (.t 4), none, 3, []⟩,
     ⟨(some 103), .mov (.t 14), none, 4, []⟩,
     ⟨(some 104), .sliceV 1 (.t 102) (some (.t 103)) none none, none, 5, []⟩,
     ⟨(some 105), .faddr 2 (.t 2), none, 6, []⟩,
     ⟨none, .store 1 (.t 105) (.t 101), none, 7, [((some 104), .sliceV 1 (.t 102) (some (.t 103)) none none, none)]⟩,
     ⟨(some 4), .mov (.t 104), none, 8, []⟩]))
 (.seq
 (.block 3
   (.loop page_parse_l1))
 (.seq
 (.seq
  (.many 0 ([⟨(some 143), .mov (.t 3), none, 0, []⟩,
      ⟨(some 144), .un .not (.t 143), none, 1, []⟩,
      ⟨(some 145), .mov (.t 144), none, 2, []⟩,
      ⟨(some 146), .mov (.t 8), (some ((some 145), false)), 3, []⟩,
      ⟨(some 147), .bin .gtr (.t 146) (.c (.int .i64 1)), (some ((some 145), false)), 4, []⟩,
      ⟨(some 148), .pick (.t 145) (.c (.bool true)) (.t 147), none, 5, []⟩,
      ⟨(some 149), .mov (.t 148), none, 6, []⟩,
      ⟨(some 150), .mov (.t 9), (some ((some 149), false)), 7, []⟩,
      ⟨(some 151), .bin .gtr (.t 150) (.c (.int .i64 1)), (some ((some 149), false)), 8, []⟩,
      ⟨(some 152), .pick (.t 149) (.c (.bool true)) (.t 151), none, 9, []⟩,
      ⟨(some 153), .mov (.t 152), none, 10, []⟩,
      ⟨(some 154), .mov (.t 4), (some ((some 153), false)), 11, []⟩,
      ⟨(some 155), .lenV (.t 154), (some ((some 153), false)), 12, []⟩,
      ⟨(some 156), .bin .eql (.t 155) (.c (.int .i64 0)), (some ((some 153), false)), 13, []⟩,
      ⟨(some 157), .pick (.t 153) (.c (.bool true)) (.t 156), none, 14, []⟩,
      ⟨(some 158), .mov (.t 157), none, 15, []⟩,
      ⟨(some 159), .mov (.t 4), (some ((some 158), false)), 16, []⟩,
      ⟨(some 160), .iaddrV 1 (.t 159) (.c (.int .i64 0)), (some ((some 158), false)), 17, []⟩,
      ⟨(some 161), .load1 (.t 160), (some ((some 158), false)), 18, []⟩,
      ⟨(some 162), .bin .neq (.t 161) (.c (.string ⟨⟨[37, 37, 84, 114, 97, 105, 108, 101, 114]⟩⟩)), (some ((some 158), false)), 19, []⟩,
      ⟨(some 163), .pick (.t 158) (.c (.bool true)) (.t 162), none, 20, []⟩,
      ⟨(some 164), .mov (.t 163), none, 21, []⟩,
      ⟨(some 165), .mov (.t 9), (some ((some 164), false)), 22, []⟩,
      ⟨(some 166), .bin .eql (.t 165) (.c (.int .i64 1)), (some ((some 164), false)), 23, []⟩,
      ⟨(some 167), .mov (.t 166), (some ((some 164), false)), 24, []⟩,
      ⟨(some 168), .mov (.t 7), (some ((some 167), true)), 25, []⟩,
      ⟨(some 169), .faddr 3 (.t 2), (some ((some 167), true)), 26, []⟩,
      ⟨(some 170), .load1 (.t 169), (some ((some 167), true)), 27, []⟩,
      ⟨(some 171), .lenV (.t 170), (some ((some 167), true)), 28, []⟩] ++
     (⟨(some 172), .callF 44 [(.t 171)], (some ((some 167), true)), 29, []⟩ ::
     ([⟨(some 173), .bin .neq (.t 168) (.t 172), (some ((some 167), true)), 30, []⟩,
      ⟨(some 174), .pick (.t 167) (.t 173) (.c (.bool false)), (some ((some 164), false)), 31, []⟩,
      ⟨(some 175), .pick (.t 164) (.c (.bool true)) (.t 174), none, 32, []⟩]))))
  (.cond (.t 175)
   (.seq
    (.region 0 ([⟨(some 176), .loadN 5 (.t 2), none, 0, []⟩,
        ⟨none, .store 5 (.t 2) (.t 176), none, 1, []⟩,
        ⟨(some 3), .mov (.c (.bool false)), none, 2, []⟩]))
    (.ret))
   (.skip)))
 (.seq
 (.region 0 ([⟨(some 177), .mov (.t 4), none, 0, []⟩,
     ⟨(some 178), .sliceV 1 (.t 177) (some (.c (.int .i64 1))) none none, none, 1, []⟩,
     ⟨(some 179), .faddr 4 (.t 2), none, 2, []⟩,
     ⟨none, .store 1 (.t 179) (.t 178), none, 3, []⟩]))
 (.seq
 (.region 0 ([⟨(some 180), .loadN 5 (.t 2), none, 0, []⟩,
     ⟨(some 181), .faddr 4 (.t 2), none, 1, []⟩,
     ⟨(some 182), .load1 (.t 181), none, 2, []⟩] ++
    (⟨(some 183), .callF 45 [(.t 182), (.c (.func (.func 46) ⟨[]⟩ ⟨[]⟩))], none, 3, [((some 180), .loadN 5 (.t 2), none)]⟩ ::
    ([⟨(some 184), .un .not (.t 183), none, 4, []⟩,
     ⟨none, .store 5 (.t 2) (.t 180), none, 5, []⟩,
     ⟨(some 3), .mov (.t 184), none, 6, []⟩]))))
 (.ret))))))))))))))))),
 [.cell 2 true 5, .tmp 3]⟩
def page_clone_l0 : CCode :=
 (.seq
 (.region 0 ([⟨(some 22), .bin .lss (.t 21) (.t 20), none, 0, []⟩]))
 (.seq
 (.cond (.t 22)
   (.skip)
   (.exit 0))
 (.seq
 (.block 1
   (.seq
    (.region 0 ([⟨(some 23), .iaddrV 1 (.t 19) (.t 21), none, 0, []⟩,
        ⟨(some 24), .load1 (.t 23), none, 1, []⟩,
        ⟨(some 5), .mov (.t 24), none, 2, []⟩]))
    (.region 8 ([⟨(some 25), .faddr 3 (.t 3), none, 0, []⟩,
       ⟨(some 26), .load1 (.t 25), none, 1, []⟩,
       ⟨(some 27), .mov (.t 5), none, 2, []⟩] ++
      (⟨(some 28), .callF 47 [(.t 27)], none, 3, [((some 26), .load1 (.t 25), none)]⟩ ::
      ([⟨(some 29), .buildSlice 24 1 [(.slice none 0 0)] [(0, 1, (.t 28))], none, 4, []⟩,
       ⟨(some 30), .append 24 1 24 (.t 26) (.t 29), none, 5, []⟩,
       ⟨(some 31), .faddr 3 (.t 3), none, 6, []⟩,
       ⟨none, .store 1 (.t 31) (.t 30), none, 7, []⟩]))))))
 (.region 0 ([⟨(some 32), .bin .add (.t 21) (.c (.int .i64 1)), none, 0, []⟩,
    ⟨(some 21), .mov (.t 32), none, 1, []⟩])))))
def page_clone : CFunc := ⟨34,
 (.seq
 (.region 2 ([⟨(some 1), .box 27 (.t 0), none, 0, []⟩,
     ⟨(some 2), .alloc 27 [(.string ⟨⟨[]⟩⟩), (.slice none 0 0), (.slice none 0 0), (.slice none 0 0), (.slice none 0 0)], none, 1, []⟩]))
 (.seq
 (.region 14 ([⟨(some 6), .faddr 0 (.t 1), none, 0, []⟩,
     ⟨(some 7), .load1 (.t 6), none, 1, []⟩,
     ⟨(some 8), .faddr 1 (.t 1), none, 2, []⟩,
     ⟨(some 9), .load1 (.t 8), none, 3, []⟩,
     ⟨(some 11), .faddr 2 (.t 1), none, 5, []⟩,
     ⟨(some 12), .load1 (.t 11), none, 6, []⟩,
     ⟨(some 14), .faddr 4 (.t 1), none, 8, []⟩,
     ⟨(some 15), .load1 (.t 14), none, 9, []⟩] ++
    (⟨(some 10), .callF 47 [(.t 9)], none, 4, [((some 7), .load1 (.t 6), none), ((some 12), .load1 (.t 11), none), ((some 15), .load1 (.t 14), none)]⟩ ::
    (⟨(some 13), .callF 47 [(.t 12)], none, 7, [((some 7), .load1 (.t 6), none), ((some 15), .load1 (.t 14), none)]⟩ ::
    (⟨(some 16), .callF 47 [(.t 15)], none, 10, [((some 7), .load1 (.t 6), none)]⟩ ::
    ([⟨(some 17), .build [(.string ⟨⟨[]⟩⟩), (.slice none 0 0), (.slice none 0 0), (.slice none 0 0), (.slice none 0 0)] [(0, 1, (.t 7)), (1, 1, (.t 10)), (2, 1, (.t 13)), (4, 1, (.t 16))], none, 11, []⟩,
     ⟨(some 3), .alloc 27 [(.string ⟨⟨[]⟩⟩), (.slice none 0 0), (.slice none 0 0), (.slice none 0 0), (.slice none 0 0)], none, 12, []⟩,
     ⟨none, .store 5 (.t 3) (.t 17), none, 13, []⟩]))))))
 (.seq
 (.seq
  (.region 0 ([⟨(some 18), .faddr 3 (.t 1), none, 0, []⟩,
      ⟨(some 19), .load1 (.t 18), none, 1, []⟩,
      ⟨(some 20), .lenV (.t 19), none, 2, []⟩,
      ⟨(some 21), .mov (.c (.int .i64 0)), none, 3, []⟩]))
  (.block 0
   (.loop page_clone_l0)))
 (.seq
 (.region 0 ([⟨(some 33), .loadN 5 (.t 3), none, 0, []⟩,
     ⟨none, .store 5 (.t 2) (.t 33), none, 1, []⟩]))
 (.ret))))),
 [.cell 2 true 5]⟩
def page_format_l0 : CCode :=
 (.seq
 (.region 0 ([⟨(some 18), .bin .lss (.t 17) (.t 16), none, 0, []⟩]))
 (.seq
 (.cond (.t 18)
   (.skip)
   (.exit 0))
 (.seq
 (.block 1
   (.seq
    (.region 0 ([⟨(some 19), .mov (.t 17), none, 0, []⟩,
        ⟨(some 20), .iaddrV 1 (.t 15) (.t 17), none, 1, []⟩,
        ⟨(some 21), .load1 (.t 20), none, 2, []⟩,
        ⟨(some 4), .mov (.t 19), none, 3, []⟩,
        ⟨(some 5), .mov (.t 21), none, 4, []⟩]))
    (.seq
    (.many 8 ([⟨(some 22), .mov (.t 3), none, 0, []⟩,
        ⟨(some 23), .mov (.t 4), none, 1, []⟩,
        ⟨(some 24), .bin .add (.t 23) (.c (.int .i64 1)), none, 2, []⟩] ++
       (⟨(some 25), .callF 44 [(.t 24)], none, 3, []⟩ ::
       ([⟨(some 26), .bin .add (.c (.string ⟨⟨[37, 37, 80, 97, 103, 101, 58, 32]⟩⟩)) (.t 25), none, 4, []⟩,
        ⟨(some 27), .buildSlice 9 1 [(.string ⟨⟨[]⟩⟩)] [(0, 1, (.t 26))], none, 5, []⟩,
        ⟨(some 28), .append 9 1 16 (.t 22) (.t 27), none, 6, []⟩,
        ⟨(some 3), .mov (.t 28), none, 7, []⟩]))))
    (.region 0 ([⟨(some 29), .mov (.t 3), none, 0, []⟩,
       ⟨(some 30), .mov (.t 5), none, 1, []⟩,
       ⟨(some 31), .append 9 1 16 (.t 29) (.t 30), none, 2, []⟩,
       ⟨(some 3), .mov (.t 31), none, 3, []⟩])))))
 (.region 0 ([⟨(some 32), .bin .add (.t 17) (.c (.int .i64 1)), none, 0, []⟩,
    ⟨(some 17), .mov (.t 32), none, 1, []⟩])))))
def page_format : CFunc := ⟨43,
 (.seq
 (.region 2 ([⟨(some 1), .box 27 (.t 0), none, 0, []⟩,
     ⟨(some 2), .mov (.c (.string ⟨⟨[]⟩⟩)), none, 1, []⟩]))
 (.seq
 (.many 9 ([⟨(some 6), .buildSlice 9 1 [(.string ⟨⟨[]⟩⟩)] [(0, 1, (.c (.string ⟨⟨[37, 33, 68, 111, 99]⟩⟩)))], none, 0, []⟩,
     ⟨(some 7), .faddr 1 (.t 1), none, 1, []⟩,
     ⟨(some 8), .load1 (.t 7), none, 2, []⟩,
     ⟨(some 9), .buildSlice 9 1 [(.string ⟨⟨[]⟩⟩)] [(0, 1, (.c (.string ⟨⟨[37, 37, 69, 110, 100, 72, 101, 97, 100, 101, 114]⟩⟩)))], none, 3, []⟩,
     ⟨(some 10), .faddr 2 (.t 1), none, 4, []⟩,
     ⟨(some 11), .load1 (.t 10), none, 5, []⟩,
     ⟨(some 12), .buildSlice 24 4 [(.slice none 0 0), (.slice none 0 0), (.slice none 0 0), (.slice none 0 0)] [(0, 1, (.t 6)), (1, 1, (.t 8)), (2, 1, (.t 9)), (3, 1, (.t 11))], none, 6, []⟩] ++
    (⟨(some 13), .callF 51 [(.t 12)], none, 7, []⟩ ::
    ([⟨(some 3), .mov (.t 13), none, 8, []⟩]))))
 (.seq
 (.seq
  (.region 0 ([⟨(some 14), .faddr 3 (.t 1), none, 0, []⟩,
      ⟨(some 15), .load1 (.t 14), none, 1, []⟩,
      ⟨(some 16), .lenV (.t 15), none, 2, []⟩,
      ⟨(some 17), .mov (.c (.int .i64 0)), none, 3, []⟩]))
  (.block 0
   (.loop page_format_l0)))
 (.seq
 (.region 4 ([⟨(some 33), .mov (.t 3), none, 0, []⟩,
     ⟨(some 34), .buildSlice 9 1 [(.string ⟨⟨[]⟩⟩)] [(0, 1, (.c (.string ⟨⟨[37, 37, 84, 114, 97, 105, 108, 101, 114]⟩⟩)))], none, 1, []⟩,
     ⟨(some 35), .append 9 1 16 (.t 33) (.t 34), none, 2, []⟩,
     ⟨(some 3), .mov (.t 35), none, 3, []⟩]))
 (.seq
 (.many 8 ([⟨(some 36), .mov (.t 3), none, 0, []⟩,
     ⟨(some 37), .faddr 4 (.t 1), none, 1, []⟩,
     ⟨(some 38), .load1 (.t 37), none, 2, []⟩,
     ⟨(some 39), .append 9 1 16 (.t 36) (.t 38), none, 3, []⟩,
     ⟨(some 40), .buildSlice 9 1 [(.string ⟨⟨[]⟩⟩)] [(0, 1, (.c (.string ⟨⟨[37, 37, 69, 79, 70]⟩⟩)))], none, 4, []⟩,
     ⟨(some 41), .append 9 1 16 (.t 39) (.t 40), none, 5, []⟩] ++
    (⟨(some 42), .callF 52 [(.t 41)], none, 6, []⟩ ::
    ([⟨(some 2), .mov (.t 42), none, 7, []⟩]))))
 (.ret)))))),
 [.tmp 2]⟩
def page_Same : CFunc := ⟨40,
 (.seq
 (.region 3 ([⟨(some 2), .box 27 (.t 0), none, 0, []⟩,
     ⟨(some 3), .box 27 (.t 1), none, 1, []⟩,
     ⟨(some 4), .mov (.c (.bool false)), none, 2, []⟩]))
 (.seq
 (.many 0 ([⟨(some 6), .faddr 1 (.t 2), none, 0, []⟩,
     ⟨(some 7), .load1 (.t 6), none, 1, []⟩,
     ⟨(some 8), .faddr 1 (.t 3), none, 2, []⟩,
     ⟨(some 9), .load1 (.t 8), none, 3, []⟩] ++
    (⟨(some 10), .callF 53 [(.t 7), (.t 9)], none, 4, []⟩ ::
    ([⟨(some 11), .mov (.t 10), none, 5, []⟩,
     ⟨(some 12), .faddr 2 (.t 2), (some ((some 11), true)), 6, []⟩,
     ⟨(some 13), .load1 (.t 12), (some ((some 11), true)), 7, []⟩,
     ⟨(some 14), .faddr 2 (.t 3), (some ((some 11), true)), 8, []⟩,
     ⟨(some 15), .load1 (.t 14), (some ((some 11), true)), 9, []⟩] ++
    (⟨(some 16), .callF 53 [(.t 13), (.t 15)], (some ((some 11), true)), 10, []⟩ ::
    ([⟨(some 17), .pick (.t 11) (.t 16) (.c (.bool false)), none, 11, []⟩,
     ⟨(some 18), .mov (.t 17), none, 12, []⟩,
     ⟨(some 19), .faddr 4 (.t 2), (some ((some 18), true)), 13, []⟩,
     ⟨(some 20), .load1 (.t 19), (some ((some 18), true)), 14, []⟩,
     ⟨(some 21), .faddr 4 (.t 3), (some ((some 18), true)), 15, []⟩,
     ⟨(some 22), .load1 (.t 21), (some ((some 18), true)), 16, []⟩] ++
    (⟨(some 23), .callF 53 [(.t 20), (.t 22)], (some ((some 18), true)), 17, []⟩ ::
    ([⟨(some 24), .pick (.t 18) (.t 23) (.c (.bool false)), none, 18, []⟩,
     ⟨(some 5), .mov (.t 24), none, 19, []⟩]))))))))
 (.seq
 (.many 0 ([⟨(some 25), .faddr 0 (.t 2), none, 0, []⟩,
     ⟨(some 26), .load1 (.t 25), none, 1, []⟩,
     ⟨(some 27), .faddr 0 (.t 3), none, 2, []⟩,
     ⟨(some 28), .load1 (.t 27), none, 3, []⟩,
     ⟨(some 29), .bin .eql (.t 26) (.t 28), none, 4, []⟩,
     ⟨(some 30), .mov (.t 29), none, 5, []⟩,
     ⟨(some 31), .mov (.t 5), (some ((some 30), true)), 6, []⟩,
     ⟨(some 32), .pick (.t 30) (.t 31) (.c (.bool false)), none, 7, []⟩,
     ⟨(some 33), .mov (.t 32), none, 8, []⟩,
     ⟨(some 34), .faddr 3 (.t 2), (some ((some 33), true)), 9, []⟩,
     ⟨(some 35), .load1 (.t 34), (some ((some 33), true)), 10, []⟩,
     ⟨(some 36), .faddr 3 (.t 3), (some ((some 33), true)), 11, []⟩,
     ⟨(some 37), .load1 (.t 36), (some ((some 33), true)), 12, []⟩] ++
    (⟨(some 38), .callF 54 [(.t 35), (.t 37), (.c (.func (.func 53) ⟨[]⟩ ⟨[]⟩))], (some ((some 33), true)), 13, []⟩ ::
    ([⟨(some 39), .pick (.t 33) (.t 38) (.c (.bool false)), none, 14, []⟩,
     ⟨(some 4), .mov (.t 39), none, 15, []⟩]))))
 (.ret)))),
 [.tmp 4]⟩
def slices_ContainsFunc_int_int : CFunc := ⟨9,
 (.seq
 (.region 0 ([⟨(some 4), .mov (.c (.bool false)), none, 0, []⟩]))
 (.seq
 (.many 0 ([⟨(some 5), .mov (.t 0), none, 0, []⟩,
     ⟨(some 6), .mov (.t 1), none, 1, []⟩] ++
    (⟨(some 7), .callF 55 [(.t 5), (.t 6)], none, 2, []⟩ ::
    ([⟨(some 8), .bin .geq (.t 7) (.c (.int .i64 0)), none, 3, []⟩,
     ⟨(some 4), .mov (.t 8), none, 4, []⟩]))))
 (.ret))),
 [.tmp 4]⟩
def page_Pick_1 : CFunc := ⟨13,
 (.seq
 (.region 0 ([⟨(some 3), .mov (.c (.bool false)), none, 0, []⟩]))
 (.seq
 (.region 0 ([⟨(some 4), .mov (.t 0), none, 0, []⟩,
     ⟨(some 5), .bin .lss (.t 4) (.c (.int .i64 1)), none, 1, []⟩,
     ⟨(some 6), .mov (.t 5), none, 2, []⟩,
     ⟨(some 7), .mov (.t 0), (some ((some 6), false)), 3, []⟩,
     ⟨(some 8), .faddr 3 (.t 1), (some ((some 6), false)), 4, []⟩,
     ⟨(some 9), .load1 (.t 8), (some ((some 6), false)), 5, []⟩,
     ⟨(some 10), .lenV (.t 9), (some ((some 6), false)), 6, []⟩,
     ⟨(some 11), .bin .gtr (.t 7) (.t 10), (some ((some 6), false)), 7, []⟩,
     ⟨(some 12), .pick (.t 6) (.c (.bool true)) (.t 11), none, 8, []⟩,
     ⟨(some 3), .mov (.t 12), none, 9, []⟩]))
 (.ret))),
 [.tmp 3]⟩
def page_pick_l0 : CCode :=
 (.seq
 (.region 0 ([⟨(some 16), .bin .lss (.t 15) (.t 14), none, 0, []⟩]))
 (.seq
 (.cond (.t 16)
   (.skip)
   (.exit 0))
 (.seq
 (.block 1
   (.seq
    (.region 0 ([⟨(some 17), .iaddrV 1 (.t 13) (.t 15), none, 0, []⟩,
        ⟨(some 18), .load1 (.t 17), none, 1, []⟩,
        ⟨(some 8), .mov (.t 18), none, 2, []⟩]))
    (.region 10 ([⟨(some 19), .mov (.t 6), none, 0, []⟩,
       ⟨(some 20), .faddr 3 (.t 2), none, 1, []⟩,
       ⟨(some 21), .load1 (.t 20), none, 2, []⟩,
       ⟨(some 22), .mov (.t 8), none, 3, []⟩,
       ⟨(some 23), .bin .sub (.t 22) (.c (.int .i64 1)), none, 4, []⟩,
       ⟨(some 24), .iaddrV 1 (.t 21) (.t 23), none, 5, []⟩,
       ⟨(some 25), .load1 (.t 24), none, 6, []⟩,
       ⟨(some 26), .buildSlice 24 1 [(.slice none 0 0)] [(0, 1, (.t 25))], none, 7, []⟩,
       ⟨(some 27), .append 24 1 24 (.t 19) (.t 26), none, 8, []⟩,
       ⟨(some 6), .mov (.t 27), none, 9, []⟩]))))
 (.region 0 ([⟨(some 28), .bin .add (.t 15) (.c (.int .i64 1)), none, 0, []⟩,
    ⟨(some 15), .mov (.t 28), none, 1, []⟩])))))
def page_pick_l1 : CCode :=
 (.seq
 (.region 0 ([⟨(some 35), .bin .lss (.t 34) (.t 33), none, 0, []⟩]))
 (.seq
 (.cond (.t 35)
   (.skip)
   (.exit 2))
 (.seq
 (.block 3
   (.seq
    (.region 0 ([⟨(some 36), .mov (.t 34), none, 0, []⟩,
        ⟨(some 37), .iaddrV 1 (.t 32) (.t 34), none, 1, []⟩,
        ⟨(some 38), .load1 (.t 37), none, 2, []⟩,
        ⟨(some 9), .mov (.t 36), none, 3, []⟩,
        ⟨(some 10), .mov (.t 38), none, 4, []⟩]))
    (.seq
    (.many 0 ([⟨(some 40), .mov (.t 10), none, 0, []⟩] ++
       (⟨(some 41), .callF 42 [(.t 40)], none, 1, []⟩ ::
       ([⟨(some 39), .mov (.t 41), none, 2, []⟩,
        ⟨(some 42), .extract (.t 39) 0, none, 3, []⟩,
        ⟨(some 43), .extract (.t 39) 1, none, 4, []⟩,
        ⟨(some 11), .mov (.t 42), none, 5, []⟩,
        ⟨(some 12), .mov (.t 43), none, 6, []⟩]))))
    (.seq
    (.region 0 ([⟨(some 44), .mov (.t 11), none, 0, []⟩,
        ⟨(some 45), .bin .eql (.t 44) (.c (.string ⟨⟨[37, 37, 80, 97, 103, 101, 115, 58, 32]⟩⟩)), none, 1, []⟩]))
    (.cond (.t 45)
     (.region 0 ([⟨(some 46), .faddr 1 (.t 2), none, 0, []⟩,
         ⟨(some 47), .load1 (.t 46), none, 1, []⟩,
         ⟨(some 48), .mov (.t 9), none, 2, []⟩,
         ⟨(some 49), .mov (.t 6), none, 3, []⟩,
         ⟨(some 50), .lenV (.t 49), none, 4, []⟩] ++
        (⟨(some 51), .callF 44 [(.t 50)], none, 5, [((some 47), .load1 (.t 46), none)]⟩ ::
        ([⟨(some 52), .bin .add (.c (.string ⟨⟨[37, 37, 80, 97, 103, 101, 115, 58, 32]⟩⟩)) (.t 51), none, 6, []⟩,
         ⟨(some 53), .iaddrV 1 (.t 47) (.t 48), none, 7, []⟩,
         ⟨none, .store 1 (.t 53) (.t 52), none, 8, []⟩]))))
     (.skip))))))
 (.region 0 ([⟨(some 54), .bin .add (.t 34) (.c (.int .i64 1)), none, 0, []⟩,
    ⟨(some 34), .mov (.t 54), none, 1, []⟩])))))
def page_pick : CFunc := ⟨59,
 (.seq
 (.region 3 ([⟨(some 2), .box 27 (.t 0), none, 0, []⟩,
     ⟨(some 4), .mov (.c (.string ⟨⟨[]⟩⟩)), none, 1, []⟩,
     ⟨(some 5), .mov (.c (.int .i64 0)), none, 2, []⟩]))
 (.seq
 (.region 0 ([⟨(some 6), .mov (.c (.slice none 0 0)), none, 0, []⟩]))
 (.seq
 (.seq
  (.region 0 ([⟨(some 13), .mov (.t 1), none, 0, []⟩,
      ⟨(some 14), .lenV (.t 13), none, 1, []⟩,
      ⟨(some 15), .mov (.c (.int .i64 0)), none, 2, []⟩]))
  (.block 0
   (.loop page_pick_l0)))
 (.seq
 (.region 0 ([⟨(some 29), .mov (.t 6), none, 0, []⟩,
     ⟨(some 30), .faddr 3 (.t 2), none, 1, []⟩,
     ⟨none, .store 1 (.t 30) (.t 29), none, 2, []⟩]))
 (.seq
 (.seq
  (.region 0 ([⟨(some 31), .faddr 1 (.t 2), none, 0, []⟩,
      ⟨(some 32), .load1 (.t 31), none, 1, []⟩,
      ⟨(some 33), .lenV (.t 32), none, 2, []⟩,
      ⟨(some 34), .mov (.c (.int .i64 0)), none, 3, []⟩]))
  (.block 2
   (.loop page_pick_l1)))
 (.seq
 (.many 0 ([⟨(some 55), .loadN 5 (.t 2), none, 0, []⟩] ++
    (⟨(some 56), .callF 56 [(.t 55)], none, 1, []⟩ ::
    ([⟨(some 57), .extract (.t 56) 0, none, 2, []⟩,
     ⟨(some 58), .extract (.t 56) 1, none, 3, []⟩,
     ⟨(some 4), .mov (.t 57), none, 4, []⟩,
     ⟨(some 5), .mov (.t 58), none, 5, []⟩]))))
 (.ret))))))),
 [.tmp 4, .tmp 5]⟩
def page_lines : CFunc := ⟨16,
 (.seq
 (.region 0 ([⟨(some 2), .mov (.c (.slice none 0 0)), none, 0, []⟩,
     ⟨(some 3), .mov (.c (.bool false)), none, 1, []⟩]))
 (.seq
 (.seq
  (.region 0 ([⟨(some 6), .mov (.t 0), none, 0, []⟩,
      ⟨(some 7), .bin .eql (.t 6) (.c (.string ⟨⟨[]⟩⟩)), none, 1, []⟩]))
  (.cond (.t 7)
   (.seq
    (.region 0 ([⟨(some 2), .mov (.c (.slice none 0 0)), none, 0, []⟩,
        ⟨(some 3), .mov (.c (.bool true)), none, 1, []⟩]))
    (.ret))
   (.skip)))
 (.seq
 (.many 0 ([⟨(some 9), .mov (.t 0), none, 0, []⟩] ++
    (⟨(some 10), .callF 57 [(.t 9), (.c (.string ⟨⟨[10]⟩⟩))], none, 1, []⟩ ::
    ([⟨(some 8), .mov (.t 10), none, 2, []⟩,
     ⟨(some 11), .extract (.t 8) 0, none, 3, []⟩,
     ⟨(some 12), .extract (.t 8) 1, none, 4, []⟩,
     ⟨(some 4), .mov (.t 11), none, 5, []⟩,
     ⟨(some 5), .mov (.t 12), none, 6, []⟩]))))
 (.seq
 (.many 0 ([⟨(some 13), .mov (.t 4), none, 0, []⟩] ++
    (⟨(some 14), .callF 58 [(.t 13), (.c (.string ⟨⟨[10]⟩⟩))], none, 1, []⟩ ::
    ([⟨(some 15), .mov (.t 5), none, 2, []⟩,
     ⟨(some 2), .mov (.t 14), none, 3, []⟩,
     ⟨(some 3), .mov (.t 15), none, 4, []⟩]))))
 (.ret))))),
 [.tmp 2, .tmp 3]⟩
def slices_Index_string_string_l0 : CCode :=
 (.seq
 (.region 0 ([⟨(some 9), .bin .lss (.t 8) (.t 7), none, 0, []⟩]))
 (.seq
 (.cond (.t 9)
   (.skip)
   (.exit 0))
 (.seq
 (.block 1
   (.seq
    (.region 0 ([⟨(some 10), .mov (.t 8), none, 0, []⟩,
        ⟨(some 5), .mov (.t 10), none, 1, []⟩]))
    (.seq
    (.region 0 ([⟨(some 11), .mov (.t 1), none, 0, []⟩,
        ⟨(some 12), .mov (.t 0), none, 1, []⟩,
        ⟨(some 13), .mov (.t 5), none, 2, []⟩,
        ⟨(some 14), .iaddrV 1 (.t 12) (.t 13), none, 3, []⟩,
        ⟨(some 15), .load1 (.t 14), none, 4, []⟩,
        ⟨(some 16), .bin .eql (.t 11) (.t 15), none, 5, []⟩]))
    (.cond (.t 16)
     (.seq
      (.region 0 ([⟨(some 17), .mov (.t 5), none, 0, []⟩,
          ⟨(some 4), .mov (.t 17), none, 1, []⟩]))
      (.ret))
     (.skip)))))
 (.region 0 ([⟨(some 18), .bin .add (.t 8) (.c (.int .i64 1)), none, 0, []⟩,
    ⟨(some 8), .mov (.t 18), none, 1, []⟩])))))
def slices_Index_string_string : CFunc := ⟨19,
 (.seq
 (.region 0 ([⟨(some 4), .mov (.c (.int .i64 0)), none, 0, []⟩]))
 (.seq
 (.seq
  (.region 0 ([⟨(some 6), .mov (.t 0), none, 0, []⟩,
      ⟨(some 7), .lenV (.t 6), none, 1, []⟩,
      ⟨(some 8), .mov (.c (.int .i64 0)), none, 2, []⟩]))
  (.block 0
   (.loop slices_Index_string_string_l0)))
 (.seq
 (.region 0 ([⟨(some 4), .mov (.c (.int .i64 (-1))), none, 0, []⟩]))
 (.ret)))),
 [.tmp 4]⟩
def page_comment_l0 : CCode :=
 (.seq
 (.region 0 ([⟨(some 18), .bin .lss (.t 17) (.t 16), none, 0, []⟩]))
 (.seq
 (.cond (.t 18)
   (.skip)
   (.exit 1))
 (.seq
 (.block 2
   (.seq
    (.region 0 ([⟨(some 19), .iaddrV 1 (.t 15) (.t 17), none, 0, []⟩,
        ⟨(some 20), .load1 (.t 19), none, 1, []⟩,
        ⟨(some 5), .mov (.t 20), none, 2, []⟩]))
    (.seq
    (.many 0 ([⟨(some 22), .mov (.t 0), none, 0, []⟩,
        ⟨(some 23), .mov (.t 5), none, 1, []⟩] ++
       (⟨(some 24), .callF 59 [(.t 22), (.t 23)], none, 2, []⟩ ::
       ([⟨(some 21), .mov (.t 24), none, 3, []⟩,
        ⟨(some 25), .extract (.t 21) 0, none, 4, []⟩,
        ⟨(some 26), .extract (.t 21) 1, none, 5, []⟩,
        ⟨(some 6), .mov (.t 25), none, 6, []⟩,
        ⟨(some 7), .mov (.t 26), none, 7, []⟩]))))
    (.seq
    (.seq
     (.region 0 ([⟨(some 27), .mov (.t 7), none, 0, []⟩,
         ⟨(some 28), .un .not (.t 27), none, 1, []⟩]))
     (.cond (.t 28)
      (.exit 2)
      (.skip)))
    (.block 3
     (.seq
      (.seq
       (.region 0 ([⟨(some 30), .mov (.t 5), none, 0, []⟩,
           ⟨(some 31), .bin .eql (.t 30) (.c (.string ⟨⟨[37, 37, 84, 105, 116, 108, 101, 58, 32]⟩⟩)), none, 1, []⟩,
           ⟨(some 29), .mov (.t 31), none, 2, []⟩]))
       (.cond (.t 29)
        (.skip)
        (.seq
         (.many 0 ([⟨(some 32), .mov (.t 5), none, 0, []⟩,
             ⟨(some 33), .bin .eql (.t 32) (.c (.string ⟨⟨[37, 37, 80, 97, 103, 101, 115, 58, 32]⟩⟩)), none, 1, []⟩,
             ⟨(some 34), .mov (.t 33), none, 2, []⟩,
             ⟨(some 35), .mov (.t 5), (some ((some 34), false)), 3, []⟩,
             ⟨(some 36), .bin .eql (.t 35) (.c (.string ⟨⟨[37, 37, 80, 97, 103, 101, 58, 32]⟩⟩)), (some ((some 34), false)), 4, []⟩,
             ⟨(some 37), .pick (.t 34) (.c (.bool true)) (.t 36), none, 5, []⟩,
             ⟨(some 38), .mov (.t 37), none, 6, []⟩,
             ⟨(some 39), .mov (.t 6), (some ((some 38), true)), 7, []⟩] ++
            (⟨(some 40), .callF 60 [(.t 39)], (some ((some 38), true)), 8, []⟩ ::
            ([⟨(some 41), .pick (.t 38) (.t 40) (.c (.bool false)), none, 9, []⟩,
             ⟨(some 29), .mov (.t 41), none, 10, []⟩]))))
         (.cond (.t 29)
          (.skip)
          (.many 0 ([⟨(some 42), .mov (.t 5), none, 0, []⟩,
              ⟨(some 43), .bin .eql (.t 42) (.c (.string ⟨⟨[37, 37, 73, 110, 99, 108, 117, 100, 101, 58, 32]⟩⟩)), none, 1, []⟩,
              ⟨(some 44), .mov (.t 43), none, 2, []⟩,
              ⟨(some 45), .mov (.t 5), (some ((some 44), false)), 3, []⟩,
              ⟨(some 46), .bin .eql (.t 45) (.c (.string ⟨⟨[37, 37, 66, 101, 103, 105, 110, 58, 32]⟩⟩)), (some ((some 44), false)), 4, []⟩,
              ⟨(some 47), .pick (.t 44) (.c (.bool true)) (.t 46), none, 5, []⟩,
              ⟨(some 48), .mov (.t 47), none, 6, []⟩,
              ⟨(some 49), .mov (.t 6), (some ((some 48), true)), 7, []⟩] ++
             (⟨(some 50), .callF 61 [(.t 49)], (some ((some 48), true)), 8, []⟩ ::
             ([⟨(some 51), .pick (.t 48) (.t 50) (.c (.bool false)), none, 9, []⟩,
              ⟨(some 29), .mov (.t 51), none, 10, []⟩]))))))))
      (.cond (.t 29)
       (.seq
        (.region 0 ([⟨(some 52), .mov (.t 5), none, 0, []⟩,
            ⟨(some 53), .mov (.t 6), none, 1, []⟩,
            ⟨(some 2), .mov (.t 52), none, 2, []⟩,
            ⟨(some 3), .mov (.t 53), none, 3, []⟩]))
        (.ret))
       (.skip))))))))
 (.region 0 ([⟨(some 54), .bin .add (.t 17) (.c (.int .i64 1)), none, 0, []⟩,
    ⟨(some 17), .mov (.t 54), none, 1, []⟩])))))
def page_comment : CFunc := ⟨55,
 (.seq
 (.region 0 ([⟨(some 2), .mov (.c (.string ⟨⟨[]⟩⟩)), none, 0, []⟩,
     ⟨(some 3), .mov (.c (.string ⟨⟨[]⟩⟩)), none, 1, []⟩]))
 (.seq
 (.seq
  (.region 0 ([⟨(some 8), .mov (.t 0), none, 0, []⟩]))
  (.block 0
   (.seq
    (.seq
     (.region 0 ([⟨(some 10), .bin .eql (.t 8) (.c (.string ⟨⟨[37, 37, 69, 110, 100, 72, 101, 97, 100, 101, 114]⟩⟩)), none, 0, []⟩,
         ⟨(some 9), .mov (.t 10), none, 1, []⟩]))
     (.cond (.t 9)
      (.skip)
      (.seq
       (.region 0 ([⟨(some 11), .bin .eql (.t 8) (.c (.string ⟨⟨[37, 37, 69, 110, 100]⟩⟩)), none, 0, []⟩,
           ⟨(some 9), .mov (.t 11), none, 1, []⟩]))
       (.cond (.t 9)
        (.skip)
        (.seq
         (.region 0 ([⟨(some 12), .bin .eql (.t 8) (.c (.string ⟨⟨[37, 37, 84, 114, 97, 105, 108, 101, 114]⟩⟩)), none, 0, []⟩,
             ⟨(some 9), .mov (.t 12), none, 1, []⟩]))
         (.cond (.t 9)
          (.skip)
          (.region 0 ([⟨(some 13), .bin .eql (.t 8) (.c (.string ⟨⟨[37, 37, 69, 79, 70]⟩⟩)), none, 0, []⟩,
              ⟨(some 9), .mov (.t 13), none, 1, []⟩]))))))))
    (.cond (.t 9)
     (.seq
      (.region 0 ([⟨(some 14), .mov (.t 0), none, 0, []⟩,
          ⟨(some 2), .mov (.t 14), none, 1, []⟩,
          ⟨(some 3), .mov (.c (.string ⟨⟨[]⟩⟩)), none, 2, []⟩]))
      (.ret))
     (.skip)))))
 (.seq
 (.seq
  (.region 3 ([⟨(some 15), .buildSlice 9 5 [(.string ⟨⟨[]⟩⟩), (.string ⟨⟨[]⟩⟩), (.string ⟨⟨[]⟩⟩), (.string ⟨⟨[]⟩⟩), (.string ⟨⟨[]⟩⟩)] [(0, 1, (.c (.string ⟨⟨[37, 37, 84, 105, 116, 108, 101, 58, 32]⟩⟩))), (1, 1, (.c (.string ⟨⟨[37, 37, 80, 97, 103, 101, 115, 58, 32]⟩⟩))), (2, 1, (.c (.string ⟨⟨[37, 37, 73, 110, 99, 108, 117, 100, 101, 58, 32]⟩⟩))), (3, 1, (.c (.string ⟨⟨[37, 37, 66, 101, 103, 105, 110, 58, 32]⟩⟩))), (4, 1, (.c (.string ⟨⟨[37, 37, 80, 97, 103, 101, 58, 32]⟩⟩)))], none, 0, []⟩,
      ⟨(some 16), .lenV (.t 15), none, 1, []⟩,
      ⟨(some 17), .mov (.c (.int .i64 0)), none, 2, []⟩]))
  (.block 1
   (.loop page_comment_l0)))
 (.seq
 (.region 0 ([⟨(some 2), .mov (.c (.string ⟨⟨[]⟩⟩)), none, 0, []⟩,
     ⟨(some 3), .mov (.c (.string ⟨⟨[]⟩⟩)), none, 1, []⟩]))
 (.ret))))),
 [.tmp 2, .tmp 3]⟩
def page_body_l0 : CCode :=
 (.seq
 (.region 0 ([⟨(some 12), .bin .lss (.t 11) (.t 10), none, 0, []⟩]))
 (.seq
 (.cond (.t 12)
   (.skip)
   (.exit 0))
 (.seq
 (.block 1
   (.seq
    (.region 0 ([⟨(some 13), .mov (.t 11), none, 0, []⟩,
        ⟨(some 14), .iaddrV 1 (.t 9) (.t 11), none, 1, []⟩,
        ⟨(some 15), .load1 (.t 14), none, 2, []⟩,
        ⟨(some 5), .mov (.t 13), none, 3, []⟩,
        ⟨(some 6), .mov (.t 15), none, 4, []⟩]))
    (.seq
    (.many 0 ([⟨(some 17), .mov (.t 6), none, 0, []⟩] ++
       (⟨(some 18), .callF 42 [(.t 17)], none, 1, []⟩ ::
       ([⟨(some 16), .mov (.t 18), none, 2, []⟩,
        ⟨(some 19), .extract (.t 16) 0, none, 3, []⟩,
        ⟨(some 20), .extract (.t 16) 1, none, 4, []⟩,
        ⟨(some 7), .mov (.t 19), none, 5, []⟩,
        ⟨(some 8), .mov (.t 20), none, 6, []⟩]))))
    (.block 2
     (.seq
      (.region 0 ([⟨(some 29), .mov (.t 4), none, 0, []⟩,
          ⟨(some 30), .mov (.t 29), none, 1, []⟩,
          ⟨(some 31), .mov (.t 7), (some ((some 30), true)), 2, []⟩,
          ⟨(some 32), .bin .eql (.t 31) (.c (.string ⟨⟨[37, 37, 69, 110, 100]⟩⟩)), (some ((some 30), true)), 3, []⟩,
          ⟨(some 33), .pick (.t 30) (.t 32) (.c (.bool false)), none, 4, []⟩,
          ⟨(some 28), .mov (.t 33), none, 5, []⟩]))
      (.cond (.t 28)
       (.region 0 ([⟨(some 4), .mov (.c (.bool false)), none, 0, []⟩]))
       (.seq
        (.many 0 ([⟨(some 35), .mov (.t 4), none, 0, []⟩,
            ⟨(some 36), .mov (.t 35), none, 1, []⟩,
            ⟨(some 37), .mov (.t 6), (some ((some 36), true)), 2, []⟩] ++
           (⟨(some 38), .callF 62 [(.t 37), (.c (.string ⟨⟨[37, 37]⟩⟩))], (some ((some 36), true)), 3, []⟩ ::
           ([⟨(some 39), .pick (.t 36) (.t 38) (.c (.bool false)), none, 4, []⟩,
            ⟨(some 34), .mov (.t 39), none, 5, []⟩]))))
        (.cond (.t 34)
         (.seq
          (.region 0 ([⟨(some 2), .mov (.c (.int .i64 0)), none, 0, []⟩,
              ⟨(some 3), .mov (.c (.bool false)), none, 1, []⟩]))
          (.ret))
         (.seq
          (.region 0 ([⟨(some 41), .mov (.t 4), none, 0, []⟩,
              ⟨(some 42), .mov (.t 41), none, 1, []⟩,
              ⟨(some 43), .mov (.t 7), (some ((some 42), false)), 2, []⟩,
              ⟨(some 44), .bin .eql (.t 43) (.c (.string ⟨⟨[]⟩⟩)), (some ((some 42), false)), 3, []⟩,
              ⟨(some 45), .pick (.t 42) (.c (.bool true)) (.t 44), none, 4, []⟩,
              ⟨(some 46), .mov (.t 45), none, 5, []⟩,
              ⟨(some 47), .mov (.t 7), (some ((some 46), false)), 6, []⟩,
              ⟨(some 48), .bin .eql (.t 47) (.c (.string ⟨⟨[37, 37, 73, 110, 99, 108, 117, 100, 101, 58, 32]⟩⟩)), (some ((some 46), false)), 7, []⟩,
              ⟨(some 49), .pick (.t 46) (.c (.bool true)) (.t 48), none, 8, []⟩,
              ⟨(some 40), .mov (.t 49), none, 9, []⟩]))
          (.cond (.t 40)
           (.skip)
           (.seq
            (.region 0 ([⟨(some 51), .mov (.t 7), none, 0, []⟩,
                ⟨(some 52), .bin .eql (.t 51) (.c (.string ⟨⟨[37, 37, 66, 101, 103, 105, 110, 58, 32]⟩⟩)), none, 1, []⟩,
                ⟨(some 50), .mov (.t 52), none, 2, []⟩]))
            (.cond (.t 50)
             (.region 0 ([⟨(some 4), .mov (.c (.bool true)), none, 0, []⟩]))
             (.seq
              (.region 0 ([⟨(some 21), .mov (.t 5), none, 0, []⟩,
                  ⟨(some 22), .mov (.t 7), none, 1, []⟩,
                  ⟨(some 23), .bin .eql (.t 22) (.c (.string ⟨⟨[37, 37, 80, 97, 103, 101, 58, 32]⟩⟩)), none, 2, []⟩,
                  ⟨(some 24), .mov (.t 23), none, 3, []⟩,
                  ⟨(some 25), .mov (.t 7), (some ((some 24), false)), 4, []⟩,
                  ⟨(some 26), .bin .eql (.t 25) (.c (.string ⟨⟨[37, 37, 84, 114, 97, 105, 108, 101, 114]⟩⟩)), (some ((some 24), false)), 5, []⟩,
                  ⟨(some 27), .pick (.t 24) (.c (.bool true)) (.t 26), none, 6, []⟩,
                  ⟨(some 2), .mov (.t 21), none, 7, []⟩,
                  ⟨(some 3), .mov (.t 27), none, 8, []⟩]))
              (.ret))))))))))))))
 (.region 0 ([⟨(some 53), .bin .add (.t 11) (.c (.int .i64 1)), none, 0, []⟩,
    ⟨(some 11), .mov (.t 53), none, 1, []⟩])))))
def page_body : CFunc := ⟨58,
 (.seq
 (.region 0 ([⟨(some 2), .mov (.c (.int .i64 0)), none, 0, []⟩,
     ⟨(some 3), .mov (.c (.bool false)), none, 1, []⟩]))
 (.seq
 (.region 0 ([⟨(some 4), .mov (.c (.bool false)), none, 0, []⟩]))
 (.seq
 (.seq
  (.region 0 ([⟨(some 9), .mov (.t 0), none, 0, []⟩,
      ⟨(some 10), .lenV (.t 9), none, 1, []⟩,
      ⟨(some 11), .mov (.c (.int .i64 0)), none, 2, []⟩]))
  (.block 0
   (.loop page_body_l0)))
 (.seq
 (.region 0 ([⟨(some 54), .mov (.t 0), none, 0, []⟩,
     ⟨(some 55), .lenV (.t 54), none, 1, []⟩,
     ⟨(some 56), .mov (.t 4), none, 2, []⟩,
     ⟨(some 57), .un .not (.t 56), none, 3, []⟩,
     ⟨(some 2), .mov (.t 55), none, 4, []⟩,
     ⟨(some 3), .mov (.t 57), none, 5, []⟩]))
 (.ret))))),
 [.tmp 2, .tmp 3]⟩
def slices_ContainsFunc_string_string : CFunc := ⟨9,
 (.seq
 (.region 0 ([⟨(some 4), .mov (.c (.bool false)), none, 0, []⟩]))
 (.seq
 (.many 0 ([⟨(some 5), .mov (.t 0), none, 0, []⟩,
     ⟨(some 6), .mov (.t 1), none, 1, []⟩] ++
    (⟨(some 7), .callF 64 [(.t 5), (.t 6)], none, 2, []⟩ ::
    ([⟨(some 8), .bin .geq (.t 7) (.c (.int .i64 0)), none, 3, []⟩,
     ⟨(some 4), .mov (.t 8), none, 4, []⟩]))))
 (.ret))),
 [.tmp 4]⟩
def page_parse_1 : CFunc := ⟨12,
 (.seq
 (.region 0 ([⟨(some 2), .mov (.c (.bool false)), none, 0, []⟩]))
 (.seq
 (.many 0 ([⟨(some 6), .mov (.t 0), none, 0, []⟩] ++
    (⟨(some 7), .callF 42 [(.t 6)], none, 1, []⟩ ::
    ([⟨(some 5), .mov (.t 7), none, 2, []⟩,
     ⟨(some 8), .extract (.t 5) 0, none, 3, []⟩,
     ⟨(some 9), .extract (.t 5) 1, none, 4, []⟩,
     ⟨(some 3), .mov (.t 8), none, 5, []⟩,
     ⟨(some 4), .mov (.t 9), none, 6, []⟩]))))
 (.seq
 (.region 0 ([⟨(some 10), .mov (.t 3), none, 0, []⟩,
     ⟨(some 11), .bin .neq (.t 10) (.c (.string ⟨⟨[]⟩⟩)), none, 1, []⟩,
     ⟨(some 2), .mov (.t 11), none, 2, []⟩]))
 (.ret)))),
 [.tmp 2]⟩
def slices_Clone_string_string : CFunc := ⟨8,
 (.seq
 (.region 0 ([⟨(some 2), .mov (.c (.slice none 0 0)), none, 0, []⟩]))
 (.seq
 (.seq
  (.region 0 ([⟨(some 3), .mov (.t 0), none, 0, []⟩,
      ⟨(some 4), .eqNil false .sl (.t 3), none, 1, []⟩]))
  (.cond (.t 4)
   (.seq
    (.region 0 ([⟨(some 2), .mov (.c (.slice none 0 0)), none, 0, []⟩]))
    (.ret))
   (.skip)))
 (.seq
 (.region 4 ([⟨(some 5), .buildSlice 9 0 [] [], none, 0, []⟩,
     ⟨(some 6), .mov (.t 0), none, 1, []⟩,
     ⟨(some 7), .append 9 1 16 (.t 5) (.t 6), none, 2, []⟩,
     ⟨(some 2), .mov (.t 7), none, 3, []⟩]))
 (.ret)))),
 [.tmp 2]⟩
def slices_Concat_string_string_l0 : CCode :=
 (.seq
 (.region 0 ([⟨(some 12), .bin .lss (.t 11) (.t 10), none, 0, []⟩]))
 (.seq
 (.cond (.t 12)
   (.skip)
   (.exit 0))
 (.seq
 (.block 1
   (.seq
    (.region 0 ([⟨(some 13), .iaddrV 1 (.t 9) (.t 11), none, 0, []⟩,
        ⟨(some 14), .load1 (.t 13), none, 1, []⟩,
        ⟨(some 5), .mov (.t 14), none, 2, []⟩]))
    (.seq
    (.region 0 ([⟨(some 15), .mov (.t 3), none, 0, []⟩,
        ⟨(some 16), .mov (.t 5), none, 1, []⟩,
        ⟨(some 17), .lenV (.t 16), none, 2, []⟩,
        ⟨(some 18), .bin .add (.t 15) (.t 17), none, 3, []⟩,
        ⟨(some 3), .mov (.t 18), none, 4, []⟩]))
    (.seq
    (.region 0 ([⟨(some 19), .mov (.t 3), none, 0, []⟩,
        ⟨(some 20), .bin .lss (.t 19) (.c (.int .i64 0)), none, 1, []⟩]))
    (.cond (.t 20)
     (.no)
     (.skip))))))
 (.region 0 ([⟨(some 22), .bin .add (.t 11) (.c (.int .i64 1)), none, 0, []⟩,
    ⟨(some 11), .mov (.t 22), none, 1, []⟩])))))
def slices_Concat_string_string_l1 : CCode :=
 (.seq
 (.region 0 ([⟨(some 28), .bin .lss (.t 27) (.t 26), none, 0, []⟩]))
 (.seq
 (.cond (.t 28)
   (.skip)
   (.exit 2))
 (.seq
 (.block 3
   (.seq
    (.region 0 ([⟨(some 29), .iaddrV 1 (.t 25) (.t 27), none, 0, []⟩,
        ⟨(some 30), .load1 (.t 29), none, 1, []⟩,
        ⟨(some 8), .mov (.t 30), none, 2, []⟩]))
    (.region 0 ([⟨(some 31), .mov (.t 6), none, 0, []⟩,
       ⟨(some 32), .mov (.t 8), none, 1, []⟩,
       ⟨(some 33), .append 9 1 16 (.t 31) (.t 32), none, 2, []⟩,
       ⟨(some 6), .mov (.t 33), none, 3, []⟩]))))
 (.region 0 ([⟨(some 34), .bin .add (.t 27) (.c (.int .i64 1)), none, 0, []⟩,
    ⟨(some 27), .mov (.t 34), none, 1, []⟩])))))
def slices_Concat_string_string : CFunc := ⟨36,
 (.seq
 (.region 0 ([⟨(some 2), .mov (.c (.slice none 0 0)), none, 0, []⟩]))
 (.seq
 (.region 0 ([⟨(some 3), .mov (.c (.int .i64 0)), none, 0, []⟩]))
 (.seq
 (.seq
  (.region 0 ([⟨(some 9), .mov (.t 0), none, 0, []⟩,
      ⟨(some 10), .lenV (.t 9), none, 1, []⟩,
      ⟨(some 11), .mov (.c (.int .i64 0)), none, 2, []⟩]))
  (.block 0
   (.loop slices_Concat_string_string_l0)))
 (.seq
 (.many 0 ([⟨(some 23), .mov (.t 3), none, 0, []⟩] ++
    (⟨(some 24), .callF 67 [(.c (.slice none 0 0)), (.t 23)], none, 1, []⟩ ::
    ([⟨(some 6), .mov (.t 24), none, 2, []⟩]))))
 (.seq
 (.seq
  (.region 0 ([⟨(some 25), .mov (.t 0), none, 0, []⟩,
      ⟨(some 26), .lenV (.t 25), none, 1, []⟩,
      ⟨(some 27), .mov (.c (.int .i64 0)), none, 2, []⟩]))
  (.block 2
   (.loop slices_Concat_string_string_l1)))
 (.seq
 (.region 0 ([⟨(some 35), .mov (.t 6), none, 0, []⟩,
     ⟨(some 2), .mov (.t 35), none, 1, []⟩]))
 (.ret))))))),
 [.tmp 2]⟩
def page_text_l0 : CCode :=
 (.seq
 (.region 0 ([⟨(some 9), .bin .lss (.t 8) (.t 7), none, 0, []⟩]))
 (.seq
 (.cond (.t 9)
   (.skip)
   (.exit 0))
 (.seq
 (.block 1
   (.seq
    (.region 0 ([⟨(some 10), .iaddrV 1 (.t 6) (.t 8), none, 0, []⟩,
        ⟨(some 11), .load1 (.t 10), none, 1, []⟩,
        ⟨(some 5), .mov (.t 11), none, 2, []⟩]))
    (.many 0 ([⟨(some 12), .mov (.t 5), none, 0, []⟩,
       ⟨(some 13), .bin .add (.t 12) (.c (.string ⟨⟨[10]⟩⟩)), none, 1, []⟩] ++
      (⟨(some 14), .callF 68 [(.t 3), (.t 13)], none, 2, []⟩ ::
      ([]))))))
 (.region 0 ([⟨(some 15), .bin .add (.t 8) (.c (.int .i64 1)), none, 0, []⟩,
    ⟨(some 8), .mov (.t 15), none, 1, []⟩])))))
def page_text : CFunc := ⟨17,
 (.seq
 (.region 0 ([⟨(some 2), .mov (.c (.string ⟨⟨[]⟩⟩)), none, 0, []⟩]))
 (.seq
 (.region 1 ([⟨(some 3), .alloc 88 [(.pointer none), (.slice none 0 0)], none, 0, []⟩]))
 (.seq
 (.seq
  (.region 0 ([⟨(some 6), .mov (.t 0), none, 0, []⟩,
      ⟨(some 7), .lenV (.t 6), none, 1, []⟩,
      ⟨(some 8), .mov (.c (.int .i64 0)), none, 2, []⟩]))
  (.block 0
   (.loop page_text_l0)))
 (.seq
 (.many 0 (⟨(some 16), .callF 69 [(.t 3)], none, 0, []⟩ ::
    ([⟨(some 2), .mov (.t 16), none, 1, []⟩])))
 (.ret))))),
 [.tmp 2]⟩
def slices_Equal_string_string_l0 : CCode :=
 (.seq
 (.region 0 ([⟨(some 14), .bin .lss (.t 13) (.t 12), none, 0, []⟩]))
 (.seq
 (.cond (.t 14)
   (.skip)
   (.exit 0))
 (.seq
 (.block 1
   (.seq
    (.region 0 ([⟨(some 15), .mov (.t 13), none, 0, []⟩,
        ⟨(some 5), .mov (.t 15), none, 1, []⟩]))
    (.seq
    (.region 0 ([⟨(some 16), .mov (.t 0), none, 0, []⟩,
        ⟨(some 17), .mov (.t 5), none, 1, []⟩,
        ⟨(some 18), .iaddrV 1 (.t 16) (.t 17), none, 2, []⟩,
        ⟨(some 19), .load1 (.t 18), none, 3, []⟩,
        ⟨(some 20), .mov (.t 1), none, 4, []⟩,
        ⟨(some 21), .mov (.t 5), none, 5, []⟩,
        ⟨(some 22), .iaddrV 1 (.t 20) (.t 21), none, 6, []⟩,
        ⟨(some 23), .load1 (.t 22), none, 7, []⟩,
        ⟨(some 24), .bin .neq (.t 19) (.t 23), none, 8, []⟩]))
    (.cond (.t 24)
     (.seq
      (.region 0 ([⟨(some 4), .mov (.c (.bool false)), none, 0, []⟩]))
      (.ret))
     (.skip)))))
 (.region 0 ([⟨(some 25), .bin .add (.t 13) (.c (.int .i64 1)), none, 0, []⟩,
    ⟨(some 13), .mov (.t 25), none, 1, []⟩])))))
def slices_Equal_string_string : CFunc := ⟨26,
 (.seq
 (.region 0 ([⟨(some 4), .mov (.c (.bool false)), none, 0, []⟩]))
 (.seq
 (.seq
  (.region 0 ([⟨(some 6), .mov (.t 0), none, 0, []⟩,
      ⟨(some 7), .lenV (.t 6), none, 1, []⟩,
      ⟨(some 8), .mov (.t 1), none, 2, []⟩,
      ⟨(some 9), .lenV (.t 8), none, 3, []⟩,
      ⟨(some 10), .bin .neq (.t 7) (.t 9), none, 4, []⟩]))
  (.cond (.t 10)
   (.seq
    (.region 0 ([⟨(some 4), .mov (.c (.bool false)), none, 0, []⟩]))
    (.ret))
   (.skip)))
 (.seq
 (.seq
  (.region 0 ([⟨(some 11), .mov (.t 0), none, 0, []⟩,
      ⟨(some 12), .lenV (.t 11), none, 1, []⟩,
      ⟨(some 13), .mov (.c (.int .i64 0)), none, 2, []⟩]))
  (.block 0
   (.loop slices_Equal_string_string_l0)))
 (.seq
 (.region 0 ([⟨(some 4), .mov (.c (.bool true)), none, 0, []⟩]))
 (.ret))))),
 [.tmp 4]⟩
def slices_EqualFunc_string_string_string_string_l0 : CCode :=
 (.seq
 (.region 0 ([⟨(some 18), .bin .lss (.t 17) (.t 16), none, 0, []⟩]))
 (.seq
 (.cond (.t 18)
   (.skip)
   (.exit 0))
 (.seq
 (.block 1
   (.seq
    (.region 0 ([⟨(some 19), .mov (.t 17), none, 0, []⟩,
        ⟨(some 20), .iaddrV 1 (.t 15) (.t 17), none, 1, []⟩,
        ⟨(some 21), .load1 (.t 20), none, 2, []⟩,
        ⟨(some 7), .mov (.t 19), none, 3, []⟩,
        ⟨(some 8), .mov (.t 21), none, 4, []⟩]))
    (.seq
    (.region 0 ([⟨(some 22), .mov (.t 1), none, 0, []⟩,
        ⟨(some 23), .mov (.t 7), none, 1, []⟩,
        ⟨(some 24), .iaddrV 1 (.t 22) (.t 23), none, 2, []⟩,
        ⟨(some 25), .load1 (.t 24), none, 3, []⟩,
        ⟨(some 9), .mov (.t 25), none, 4, []⟩]))
    (.seq
    (.many 0 ([⟨(some 26), .mov (.t 2), none, 0, []⟩,
        ⟨(some 27), .mov (.t 8), none, 1, []⟩,
        ⟨(some 28), .mov (.t 9), none, 2, []⟩] ++
       (⟨(some 29), .callV (.t 26) [(.t 27), (.t 28)], none, 3, []⟩ ::
       ([⟨(some 30), .un .not (.t 29), none, 4, []⟩]))))
    (.cond (.t 30)
     (.seq
      (.region 0 ([⟨(some 6), .mov (.c (.bool false)), none, 0, []⟩]))
      (.ret))
     (.skip))))))
 (.region 0 ([⟨(some 31), .bin .add (.t 17) (.c (.int .i64 1)), none, 0, []⟩,
    ⟨(some 17), .mov (.t 31), none, 1, []⟩])))))
def slices_EqualFunc_string_string_string_string : CFunc := ⟨32,
 (.seq
 (.region 0 ([⟨(some 6), .mov (.c (.bool false)), none, 0, []⟩]))
 (.seq
 (.seq
  (.region 0 ([⟨(some 10), .mov (.t 0), none, 0, []⟩,
      ⟨(some 11), .lenV (.t 10), none, 1, []⟩,
      ⟨(some 12), .mov (.t 1), none, 2, []⟩,
      ⟨(some 13), .lenV (.t 12), none, 3, []⟩,
      ⟨(some 14), .bin .neq (.t 11) (.t 13), none, 4, []⟩]))
  (.cond (.t 14)
   (.seq
    (.region 0 ([⟨(some 6), .mov (.c (.bool false)), none, 0, []⟩]))
    (.ret))
   (.skip)))
 (.seq
 (.seq
  (.region 0 ([⟨(some 15), .mov (.t 0), none, 0, []⟩,
      ⟨(some 16), .lenV (.t 15), none, 1, []⟩,
      ⟨(some 17), .mov (.c (.int .i64 0)), none, 2, []⟩]))
  (.block 0
   (.loop slices_EqualFunc_string_string_string_string_l0)))
 (.seq
 (.region 0 ([⟨(some 6), .mov (.c (.bool true)), none, 0, []⟩]))
 (.ret))))),
 [.tmp 6]⟩
def slices_IndexFunc_int_int_l0 : CCode :=
 (.seq
 (.region 0 ([⟨(some 9), .bin .lss (.t 8) (.t 7), none, 0, []⟩]))
 (.seq
 (.cond (.t 9)
   (.skip)
   (.exit 0))
 (.seq
 (.block 1
   (.seq
    (.region 0 ([⟨(some 10), .mov (.t 8), none, 0, []⟩,
        ⟨(some 5), .mov (.t 10), none, 1, []⟩]))
    (.seq
    (.many 0 ([⟨(some 11), .mov (.t 1), none, 0, []⟩,
        ⟨(some 12), .mov (.t 0), none, 1, []⟩,
        ⟨(some 13), .mov (.t 5), none, 2, []⟩,
        ⟨(some 14), .iaddrV 1 (.t 12) (.t 13), none, 3, []⟩,
        ⟨(some 15), .load1 (.t 14), none, 4, []⟩] ++
       (⟨(some 16), .callV (.t 11) [(.t 15)], none, 5, []⟩ ::
       ([]))))
    (.cond (.t 16)
     (.seq
      (.region 0 ([⟨(some 17), .mov (.t 5), none, 0, []⟩,
          ⟨(some 4), .mov (.t 17), none, 1, []⟩]))
      (.ret))
     (.skip)))))
 (.region 0 ([⟨(some 18), .bin .add (.t 8) (.c (.int .i64 1)), none, 0, []⟩,
    ⟨(some 8), .mov (.t 18), none, 1, []⟩])))))
def slices_IndexFunc_int_int : CFunc := ⟨19,
 (.seq
 (.region 0 ([⟨(some 4), .mov (.c (.int .i64 0)), none, 0, []⟩]))
 (.seq
 (.seq
  (.region 0 ([⟨(some 6), .mov (.t 0), none, 0, []⟩,
      ⟨(some 7), .lenV (.t 6), none, 1, []⟩,
      ⟨(some 8), .mov (.c (.int .i64 0)), none, 2, []⟩]))
  (.block 0
   (.loop slices_IndexFunc_int_int_l0)))
 (.seq
 (.region 0 ([⟨(some 4), .mov (.c (.int .i64 (-1))), none, 0, []⟩]))
 (.ret)))),
 [.tmp 4]⟩
def page_told : CFunc := ⟨11,
 (.seq
 (.region 3 ([⟨(some 1), .box 27 (.t 0), none, 0, []⟩,
     ⟨(some 2), .mov (.c (.string ⟨⟨[]⟩⟩)), none, 1, []⟩,
     ⟨(some 3), .mov (.c (.int .i64 0)), none, 2, []⟩]))
 (.seq
 (.many 0 ([⟨(some 5), .loadN 5 (.t 1), none, 0, []⟩] ++
    (⟨(some 6), .callF 35 [(.t 5)], none, 1, []⟩ ::
    ([⟨(some 4), .mov (.t 6), none, 2, []⟩]))))
 (.seq
 (.seq
  (.region 0 ([⟨(some 7), .mov (.t 4), none, 0, []⟩,
      ⟨(some 8), .lenS (.t 7), none, 1, []⟩,
      ⟨(some 9), .bin .gtr (.t 8) (.c (.int .i64 20000)), none, 2, []⟩]))
  (.cond (.t 9)
   (.seq
    (.region 0 ([⟨(some 2), .mov (.c (.string ⟨⟨[]⟩⟩)), none, 0, []⟩,
        ⟨(some 3), .mov (.c (.int .i64 3)), none, 1, []⟩]))
    (.ret))
   (.skip)))
 (.seq
 (.region 0 ([⟨(some 10), .mov (.t 4), none, 0, []⟩,
     ⟨(some 2), .mov (.t 10), none, 1, []⟩,
     ⟨(some 3), .mov (.c (.int .i64 0)), none, 2, []⟩]))
 (.ret))))),
 [.tmp 2, .tmp 3]⟩
def page_isNumber : CFunc := ⟨26,
 (.seq
 (.region 0 ([⟨(some 2), .mov (.c (.bool false)), none, 0, []⟩]))
 (.seq
 (.many 0 ([⟨(some 6), .mov (.t 0), none, 0, []⟩] ++
    (⟨(some 7), .callF 73 [(.t 6)], none, 1, []⟩ ::
    ([⟨(some 5), .mov (.t 7), none, 2, []⟩,
     ⟨(some 8), .extract (.t 5) 0, none, 3, []⟩,
     ⟨(some 9), .extract (.t 5) 1, none, 4, []⟩,
     ⟨(some 3), .mov (.t 8), none, 5, []⟩,
     ⟨(some 4), .mov (.t 9), none, 6, []⟩]))))
 (.seq
 (.many 0 ([⟨(some 10), .mov (.t 4), none, 0, []⟩,
     ⟨(some 11), .eqNil false .ifc (.t 10), none, 1, []⟩,
     ⟨(some 12), .mov (.t 11), none, 2, []⟩,
     ⟨(some 13), .mov (.t 3), (some ((some 12), true)), 3, []⟩,
     ⟨(some 14), .bin .geq (.t 13) (.c (.int .i64 0)), (some ((some 12), true)), 4, []⟩,
     ⟨(some 15), .pick (.t 12) (.t 14) (.c (.bool false)), none, 5, []⟩,
     ⟨(some 16), .mov (.t 15), none, 6, []⟩,
     ⟨(some 17), .mov (.t 3), (some ((some 16), true)), 7, []⟩,
     ⟨(some 18), .bin .leq (.t 17) (.c (.int .i64 999)), (some ((some 16), true)), 8, []⟩,
     ⟨(some 19), .pick (.t 16) (.t 18) (.c (.bool false)), none, 9, []⟩,
     ⟨(some 20), .mov (.t 19), none, 10, []⟩,
     ⟨(some 21), .mov (.t 3), (some ((some 20), true)), 11, []⟩] ++
    (⟨(some 22), .callF 44 [(.t 21)], (some ((some 20), true)), 12, []⟩ ::
    ([⟨(some 23), .mov (.t 0), (some ((some 20), true)), 13, []⟩,
     ⟨(some 24), .bin .eql (.t 22) (.t 23), (some ((some 20), true)), 14, []⟩,
     ⟨(some 25), .pick (.t 20) (.t 24) (.c (.bool false)), none, 15, []⟩,
     ⟨(some 2), .mov (.t 25), none, 16, []⟩]))))
 (.ret)))),
 [.tmp 2]⟩
def page_isName_l0 : CCode :=
 (.seq
 (.region 0 ([⟨(some 9), .bin .lss (.t 8) (.t 7), none, 0, []⟩]))
 (.seq
 (.cond (.t 9)
   (.skip)
   (.exit 0))
 (.seq
 (.block 1
   (.seq
    (.region 0 ([⟨(some 10), .iaddrV 1 (.t 6) (.t 8), none, 0, []⟩,
        ⟨(some 11), .load1 (.t 10), none, 1, []⟩,
        ⟨(some 4), .mov (.t 11), none, 2, []⟩]))
    (.seq
    (.region 0 ([⟨(some 12), .mov (.t 4), none, 0, []⟩,
        ⟨(some 13), .bin .lss (.t 12) (.c (.int .u8 97)), none, 1, []⟩,
        ⟨(some 14), .mov (.t 13), none, 2, []⟩,
        ⟨(some 15), .mov (.t 4), (some ((some 14), false)), 3, []⟩,
        ⟨(some 16), .bin .gtr (.t 15) (.c (.int .u8 122)), (some ((some 14), false)), 4, []⟩,
        ⟨(some 17), .pick (.t 14) (.c (.bool true)) (.t 16), none, 5, []⟩,
        ⟨(some 18), .mov (.t 17), none, 6, []⟩,
        ⟨(some 19), .mov (.t 4), (some ((some 18), true)), 7, []⟩,
        ⟨(some 20), .bin .lss (.t 19) (.c (.int .u8 48)), (some ((some 18), true)), 8, []⟩,
        ⟨(some 21), .mov (.t 20), (some ((some 18), true)), 9, []⟩,
        ⟨(some 22), .mov (.t 4), (some ((some 21), false)), 10, []⟩,
        ⟨(some 23), .bin .gtr (.t 22) (.c (.int .u8 57)), (some ((some 21), false)), 11, []⟩,
        ⟨(some 24), .pick (.t 21) (.c (.bool true)) (.t 23), (some ((some 18), true)), 12, []⟩,
        ⟨(some 25), .pick (.t 18) (.t 24) (.c (.bool false)), none, 13, []⟩,
        ⟨(some 26), .mov (.t 25), none, 14, []⟩,
        ⟨(some 27), .mov (.t 4), (some ((some 26), true)), 15, []⟩,
        ⟨(some 28), .bin .neq (.t 27) (.c (.int .u8 45)), (some ((some 26), true)), 16, []⟩,
        ⟨(some 29), .pick (.t 26) (.t 28) (.c (.bool false)), none, 17, []⟩]))
    (.cond (.t 29)
     (.seq
      (.region 0 ([⟨(some 2), .mov (.c (.bool false)), none, 0, []⟩]))
      (.ret))
     (.skip)))))
 (.region 0 ([⟨(some 30), .bin .add (.t 8) (.c (.int .i64 1)), none, 0, []⟩,
    ⟨(some 8), .mov (.t 30), none, 1, []⟩])))))
def page_isName : CFunc := ⟨39,
 (.seq
 (.region 0 ([⟨(some 2), .mov (.c (.bool false)), none, 0, []⟩]))
 (.seq
 (.seq
  (.region 4 ([⟨(some 5), .mov (.t 0), none, 0, []⟩,
      ⟨(some 6), .convSB 5 (.t 5), none, 1, []⟩,
      ⟨(some 7), .lenV (.t 6), none, 2, []⟩,
      ⟨(some 8), .mov (.c (.int .i64 0)), none, 3, []⟩]))
  (.block 0
   (.loop page_isName_l0)))
 (.seq
 (.region 0 ([⟨(some 31), .mov (.t 0), none, 0, []⟩,
     ⟨(some 32), .lenS (.t 31), none, 1, []⟩,
     ⟨(some 33), .bin .geq (.t 32) (.c (.int .i64 1)), none, 2, []⟩,
     ⟨(some 34), .mov (.t 33), none, 3, []⟩,
     ⟨(some 35), .mov (.t 0), (some ((some 34), true)), 4, []⟩,
     ⟨(some 36), .lenS (.t 35), (some ((some 34), true)), 5, []⟩,
     ⟨(some 37), .bin .leq (.t 36) (.c (.int .i64 20)), (some ((some 34), true)), 6, []⟩,
     ⟨(some 38), .pick (.t 34) (.t 37) (.c (.bool false)), none, 7, []⟩,
     ⟨(some 2), .mov (.t 38), none, 8, []⟩]))
 (.ret)))),
 [.tmp 2]⟩
def slices_IndexFunc_string_string_l0 : CCode :=
 (.seq
 (.region 0 ([⟨(some 9), .bin .lss (.t 8) (.t 7), none, 0, []⟩]))
 (.seq
 (.cond (.t 9)
   (.skip)
   (.exit 0))
 (.seq
 (.block 1
   (.seq
    (.region 0 ([⟨(some 10), .mov (.t 8), none, 0, []⟩,
        ⟨(some 5), .mov (.t 10), none, 1, []⟩]))
    (.seq
    (.many 0 ([⟨(some 11), .mov (.t 1), none, 0, []⟩,
        ⟨(some 12), .mov (.t 0), none, 1, []⟩,
        ⟨(some 13), .mov (.t 5), none, 2, []⟩,
        ⟨(some 14), .iaddrV 1 (.t 12) (.t 13), none, 3, []⟩,
        ⟨(some 15), .load1 (.t 14), none, 4, []⟩] ++
       (⟨(some 16), .callV (.t 11) [(.t 15)], none, 5, []⟩ ::
       ([]))))
    (.cond (.t 16)
     (.seq
      (.region 0 ([⟨(some 17), .mov (.t 5), none, 0, []⟩,
          ⟨(some 4), .mov (.t 17), none, 1, []⟩]))
      (.ret))
     (.skip)))))
 (.region 0 ([⟨(some 18), .bin .add (.t 8) (.c (.int .i64 1)), none, 0, []⟩,
    ⟨(some 8), .mov (.t 18), none, 1, []⟩])))))
def slices_IndexFunc_string_string : CFunc := ⟨19,
 (.seq
 (.region 0 ([⟨(some 4), .mov (.c (.int .i64 0)), none, 0, []⟩]))
 (.seq
 (.seq
  (.region 0 ([⟨(some 6), .mov (.t 0), none, 0, []⟩,
      ⟨(some 7), .lenV (.t 6), none, 1, []⟩,
      ⟨(some 8), .mov (.c (.int .i64 0)), none, 2, []⟩]))
  (.block 0
   (.loop slices_IndexFunc_string_string_l0)))
 (.seq
 (.region 0 ([⟨(some 4), .mov (.c (.int .i64 (-1))), none, 0, []⟩]))
 (.ret)))),
 [.tmp 4]⟩
def slices_Grow_string_string : CFunc := ⟨27,
 (.seq
 (.region 0 ([⟨(some 4), .mov (.c (.slice none 0 0)), none, 0, []⟩]))
 (.seq
 (.seq
  (.region 0 ([⟨(some 5), .mov (.t 1), none, 0, []⟩,
      ⟨(some 6), .bin .lss (.t 5) (.c (.int .i64 0)), none, 1, []⟩]))
  (.cond (.t 6)
   (.no)
   (.skip)))
 (.seq
 (.seq
  (.region 0 ([⟨(some 8), .mov (.t 1), none, 0, []⟩,
      ⟨(some 9), .mov (.t 0), none, 1, []⟩,
      ⟨(some 10), .capV (.t 9), none, 2, []⟩,
      ⟨(some 11), .mov (.t 0), none, 3, []⟩,
      ⟨(some 12), .lenV (.t 11), none, 4, []⟩,
      ⟨(some 13), .bin .sub (.t 10) (.t 12), none, 5, []⟩,
      ⟨(some 14), .bin .sub (.t 8) (.t 13), none, 6, []⟩,
      ⟨(some 1), .mov (.t 14), none, 7, []⟩]))
  (.seq
  (.region 0 ([⟨(some 15), .mov (.t 1), none, 0, []⟩,
      ⟨(some 16), .bin .gtr (.t 15) (.c (.int .i64 0)), none, 1, []⟩]))
  (.cond (.t 16)
   (.region 0 ([⟨(some 17), .mov (.t 0), none, 0, []⟩,
       ⟨(some 18), .mov (.t 0), none, 1, []⟩,
       ⟨(some 19), .capV (.t 18), none, 2, []⟩,
       ⟨(some 20), .sliceV 1 (.t 17) none (some (.t 19)) none, none, 3, []⟩,
       ⟨(some 21), .mov (.t 1), none, 4, []⟩,
       ⟨(some 22), .appendZ 9 1 16 [(.string ⟨⟨[]⟩⟩)] (.t 20) (.t 21), none, 5, []⟩,
       ⟨(some 23), .mov (.t 0), none, 6, []⟩,
       ⟨(some 24), .lenV (.t 23), none, 7, []⟩,
       ⟨(some 25), .sliceV 1 (.t 22) none (some (.t 24)) none, none, 8, []⟩,
       ⟨(some 0), .mov (.t 25), none, 9, []⟩]))
   (.skip))))
 (.seq
 (.region 0 ([⟨(some 26), .mov (.t 0), none, 0, []⟩,
     ⟨(some 4), .mov (.t 26), none, 1, []⟩]))
 (.ret))))),
 [.tmp 4]⟩
def _strings_Builder_WriteString : CFunc := ⟨19,
 (.seq
 (.region 0 ([⟨(some 4), .mov (.c (.int .i64 0)), none, 0, []⟩,
     ⟨(some 5), .mov (.c .nilIface), none, 1, []⟩]))
 (.seq
 (.many 0 ([⟨(some 6), .mov (.t 0), none, 0, []⟩] ++
    (⟨(some 7), .callF 76 [(.t 6)], none, 1, []⟩ ::
    ([]))))
 (.seq
 (.region 0 ([⟨(some 8), .mov (.t 0), none, 0, []⟩,
     ⟨(some 9), .mov (.t 0), none, 1, []⟩,
     ⟨(some 10), .nilCheck (.t 9), none, 2, []⟩,
     ⟨(some 11), .faddr 1 (.t 10), none, 3, []⟩,
     ⟨(some 12), .load1 (.t 11), none, 4, []⟩,
     ⟨(some 13), .mov (.t 1), none, 5, []⟩,
     ⟨(some 14), .append 5 1 1 (.t 12) (.t 13), none, 6, []⟩,
     ⟨(some 15), .nilCheck (.t 8), none, 7, []⟩,
     ⟨(some 16), .faddr 1 (.t 15), none, 8, []⟩,
     ⟨none, .store 1 (.t 16) (.t 14), none, 9, []⟩]))
 (.seq
 (.region 0 ([⟨(some 17), .mov (.t 1), none, 0, []⟩,
     ⟨(some 18), .lenS (.t 17), none, 1, []⟩,
     ⟨(some 4), .mov (.t 18), none, 2, []⟩,
     ⟨(some 5), .mov (.c .nilIface), none, 3, []⟩]))
 (.ret))))),
 [.tmp 4, .tmp 5]⟩
def _strings_Builder_String : CFunc := ⟨14,
 (.seq
 (.region 0 ([⟨(some 2), .mov (.c (.string ⟨⟨[]⟩⟩)), none, 0, []⟩]))
 (.seq
 (.region 0 ([⟨(some 3), .mov (.t 0), none, 0, []⟩,
     ⟨(some 4), .nilCheck (.t 3), none, 1, []⟩,
     ⟨(some 5), .faddr 1 (.t 4), none, 2, []⟩,
     ⟨(some 6), .load1 (.t 5), none, 3, []⟩,
     ⟨(some 7), .sliceData (.t 6), none, 4, []⟩,
     ⟨(some 8), .mov (.t 0), none, 5, []⟩,
     ⟨(some 9), .nilCheck (.t 8), none, 6, []⟩,
     ⟨(some 10), .faddr 1 (.t 9), none, 7, []⟩,
     ⟨(some 11), .load1 (.t 10), none, 8, []⟩,
     ⟨(some 12), .lenV (.t 11), none, 9, []⟩,
     ⟨(some 13), .unsafeStr 5 (.t 7) (.t 12), none, 10, []⟩,
     ⟨(some 2), .mov (.t 13), none, 11, []⟩]))
 (.ret))),
 [.tmp 2]⟩
def _strings_Builder_copyCheck : CFunc := ⟨20,
 (.seq
 (.region 0 ([⟨(some 2), .mov (.t 0), none, 0, []⟩,
     ⟨(some 3), .nilCheck (.t 2), none, 1, []⟩,
     ⟨(some 4), .faddr 0 (.t 3), none, 2, []⟩,
     ⟨(some 5), .load1 (.t 4), none, 3, []⟩,
     ⟨(some 6), .eqPtr false (.t 5) (.c (.pointer none)), none, 4, []⟩]))
 (.cond (.t 6)
  (.many 0 ([⟨(some 7), .mov (.t 0), none, 0, []⟩,
      ⟨(some 8), .mov (.t 0), none, 1, []⟩,
      ⟨(some 9), .toUnsafe (.t 8), none, 2, []⟩] ++
     (⟨(some 10), .callF 87 [(.t 9)], none, 3, []⟩ ::
     ([⟨(some 11), .ofUnsafe 88 2 (.t 10), none, 4, []⟩,
      ⟨(some 12), .nilCheck (.t 7), none, 5, []⟩,
      ⟨(some 13), .faddr 0 (.t 12), none, 6, []⟩,
      ⟨none, .store 1 (.t 13) (.t 11), none, 7, []⟩]))))
  (.seq
   (.region 0 ([⟨(some 14), .mov (.t 0), none, 0, []⟩,
       ⟨(some 15), .nilCheck (.t 14), none, 1, []⟩,
       ⟨(some 16), .faddr 0 (.t 15), none, 2, []⟩,
       ⟨(some 17), .load1 (.t 16), none, 3, []⟩,
       ⟨(some 18), .mov (.t 0), none, 4, []⟩,
       ⟨(some 19), .eqPtr true (.t 17) (.t 18), none, 5, []⟩]))
   (.cond (.t 19)
    (.no)
    (.skip))))),
 []⟩
end Code
structure Codes (E : Env) : Prop where
  tithinglaw14_PageBack : Has E 5 Code.tithinglaw14_PageBack
  tithinglaw14_long : Has E 6 Code.tithinglaw14_long
  tithinglaw14_Awake : Has E 7 Code.tithinglaw14_Awake
  page_Parse : Has E 8 Code.page_Parse
  page_Count : Has E 13 Code.page_Count
  page_Format : Has E 20 Code.page_Format
  page_Valid : Has E 21 Code.page_Valid
  page_Pick : Has E 22 Code.page_Pick
  page_Reverse : Has E 23 Code.page_Reverse
  page_parse : Has E 24 Code.page_parse
  page_clone : Has E 25 Code.page_clone
  page_format : Has E 35 Code.page_format
  page_Same : Has E 36 Code.page_Same
  slices_ContainsFunc_int_int : Has E 37 Code.slices_ContainsFunc_int_int
  page_Pick_1 : Has E 38 Code.page_Pick_1
  page_pick : Has E 39 Code.page_pick
  page_lines : Has E 40 Code.page_lines
  slices_Index_string_string : Has E 41 Code.slices_Index_string_string
  page_comment : Has E 42 Code.page_comment
  page_body : Has E 43 Code.page_body
  slices_ContainsFunc_string_string : Has E 45 Code.slices_ContainsFunc_string_string
  page_parse_1 : Has E 46 Code.page_parse_1
  slices_Clone_string_string : Has E 47 Code.slices_Clone_string_string
  slices_Concat_string_string : Has E 51 Code.slices_Concat_string_string
  page_text : Has E 52 Code.page_text
  slices_Equal_string_string : Has E 53 Code.slices_Equal_string_string
  slices_EqualFunc_string_string_string_string : Has E 54 Code.slices_EqualFunc_string_string_string_string
  slices_IndexFunc_int_int : Has E 55 Code.slices_IndexFunc_int_int
  page_told : Has E 56 Code.page_told
  page_isNumber : Has E 60 Code.page_isNumber
  page_isName : Has E 61 Code.page_isName
  slices_IndexFunc_string_string : Has E 64 Code.slices_IndexFunc_string_string
  slices_Grow_string_string : Has E 67 Code.slices_Grow_string_string
  _strings_Builder_WriteString : Has E 68 Code._strings_Builder_WriteString
  _strings_Builder_String : Has E 69 Code._strings_Builder_String
  _strings_Builder_copyCheck : Has E 76 Code._strings_Builder_copyCheck
end Go.Ev
