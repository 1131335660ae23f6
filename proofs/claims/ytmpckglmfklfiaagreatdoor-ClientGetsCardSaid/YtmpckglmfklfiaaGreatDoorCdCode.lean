/-
  The code of functions as the machine has it, by name; their numbers.
-/
import Derived.Test.YtmpckglmfklfiaaGreatDoorEvPart3
set_option linter.unusedVariables false
namespace Go.Ev
namespace Code
def tithinglaw26_ClientGets : CFunc := ⟨32,
 (.seq
 (.region 0 ([⟨(some 2), .mov (.c (.bool false)), none, 0, []⟩]))
 (.seq
 (.seq
  (.region 0 ([⟨(some 7), .mov (.t 0), none, 0, []⟩,
      ⟨(some 8), .lenV (.t 7), none, 1, []⟩,
      ⟨(some 9), .bin .gtr (.t 8) (.c (.int .i64 2000)), none, 2, []⟩]))
  (.cond (.t 9)
   (.seq
    (.many 0 (⟨(some 10), .callF 9 [], none, 0, []⟩ ::
       ([⟨(some 2), .mov (.t 10), none, 1, []⟩])))
    (.ret))
   (.skip)))
 (.seq
 (.many 8 ([⟨(some 12), .mov (.t 0), none, 0, []⟩] ++
    (⟨(some 13), .callF 12 [(.t 12)], none, 1, []⟩ ::
    ([⟨(some 11), .mov (.t 13), none, 2, []⟩,
     ⟨(some 14), .extract (.t 11) 0, none, 3, []⟩,
     ⟨(some 15), .extract (.t 11) 1, none, 4, []⟩,
     ⟨(some 3), .alloc 28 [(.string ⟨⟨[]⟩⟩), (.int .i64 0), (.int .i64 0), (.string ⟨⟨[]⟩⟩), (.string ⟨⟨[]⟩⟩), (.int .i64 0), (.int .i64 0), (.int .i64 0), (.bool false), (.bool false), (.bool false), (.bool false), (.int .i64 0), (.int .i64 0), (.int .i64 0), (.int .i64 0), (.int .i64 0), (.bool false), (.slice none 0 0)], none, 5, []⟩,
     ⟨none, .store 19 (.t 3) (.t 14), none, 6, []⟩,
     ⟨(some 4), .mov (.t 15), none, 7, []⟩]))))
 (.seq
 (.many 8 ([⟨(some 17), .mov (.t 0), none, 0, []⟩] ++
    (⟨(some 18), .callF 13 [(.t 17)], none, 1, []⟩ ::
    ([⟨(some 16), .mov (.t 18), none, 2, []⟩,
     ⟨(some 19), .extract (.t 16) 0, none, 3, []⟩,
     ⟨(some 20), .extract (.t 16) 1, none, 4, []⟩,
     ⟨(some 5), .alloc 28 [(.string ⟨⟨[]⟩⟩), (.int .i64 0), (.int .i64 0), (.string ⟨⟨[]⟩⟩), (.string ⟨⟨[]⟩⟩), (.int .i64 0), (.int .i64 0), (.int .i64 0), (.bool false), (.bool false), (.bool false), (.bool false), (.int .i64 0), (.int .i64 0), (.int .i64 0), (.int .i64 0), (.int .i64 0), (.bool false), (.slice none 0 0)], none, 5, []⟩,
     ⟨none, .store 19 (.t 5) (.t 19), none, 6, []⟩,
     ⟨(some 6), .mov (.t 20), none, 7, []⟩]))))
 (.seq
 (.many 0 ([⟨(some 21), .loadN 19 (.t 3), none, 0, []⟩,
     ⟨(some 22), .loadN 19 (.t 5), none, 1, []⟩] ++
    (⟨(some 23), .callF 14 [(.t 21), (.t 22)], none, 2, []⟩ ::
    ([⟨(some 24), .mov (.t 23), none, 3, []⟩,
     ⟨(some 25), .mov (.t 4), (some ((some 24), true)), 4, []⟩,
     ⟨(some 26), .mov (.t 6), (some ((some 24), true)), 5, []⟩,
     ⟨(some 27), .bin .eql (.t 25) (.t 26), (some ((some 24), true)), 6, []⟩,
     ⟨(some 28), .pick (.t 24) (.t 27) (.c (.bool false)), none, 7, []⟩,
     ⟨(some 29), .mov (.t 28), none, 8, []⟩] ++
    (⟨(some 30), .callF 9 [], (some ((some 29), true)), 9, []⟩ ::
    ([⟨(some 31), .pick (.t 29) (.t 30) (.c (.bool false)), none, 10, []⟩,
     ⟨(some 2), .mov (.t 31), none, 11, []⟩]))))))
 (.ret)))))),
 [.tmp 2]⟩
def client_GetCall : CFunc := ⟨64,
 (.seq
 (.region 2 ([⟨(some 2), .alloc 28 [(.string ⟨⟨[]⟩⟩), (.int .i64 0), (.int .i64 0), (.string ⟨⟨[]⟩⟩), (.string ⟨⟨[]⟩⟩), (.int .i64 0), (.int .i64 0), (.int .i64 0), (.bool false), (.bool false), (.bool false), (.bool false), (.int .i64 0), (.int .i64 0), (.int .i64 0), (.int .i64 0), (.int .i64 0), (.bool false), (.slice none 0 0)], none, 0, []⟩,
     ⟨(some 3), .mov (.c (.int .i64 0)), none, 1, []⟩]))
 (.seq
 (.region 4 ([⟨(some 8), .mov (.t 0), none, 0, []⟩,
     ⟨(some 9), .build [(.slice none 0 0), (.int .i64 0), (.int .i64 0)] [(0, 1, (.t 8))], none, 1, []⟩,
     ⟨(some 10), .box 75 (.t 9), none, 2, []⟩,
     ⟨(some 4), .mov (.t 10), none, 3, []⟩]))
 (.seq
 (.many 5 ([⟨(some 11), .mov (.t 4), none, 0, []⟩] ++
    (⟨(some 12), .callF 40 [(.t 11)], none, 1, []⟩ ::
    ([⟨(some 13), .build [(.string ⟨⟨[]⟩⟩), (.int .i64 0), (.int .i64 0), (.string ⟨⟨[]⟩⟩), (.string ⟨⟨[]⟩⟩), (.int .i64 0), (.int .i64 0), (.int .i64 0), (.bool false), (.bool false), (.bool false), (.bool false), (.int .i64 0), (.int .i64 0), (.int .i64 0), (.int .i64 0), (.int .i64 0), (.bool false), (.slice none 0 0)] [(0, 1, (.t 12))], none, 2, []⟩,
     ⟨(some 5), .alloc 28 [(.string ⟨⟨[]⟩⟩), (.int .i64 0), (.int .i64 0), (.string ⟨⟨[]⟩⟩), (.string ⟨⟨[]⟩⟩), (.int .i64 0), (.int .i64 0), (.int .i64 0), (.bool false), (.bool false), (.bool false), (.bool false), (.int .i64 0), (.int .i64 0), (.int .i64 0), (.int .i64 0), (.int .i64 0), (.bool false), (.slice none 0 0)], none, 3, []⟩,
     ⟨none, .store 19 (.t 5) (.t 13), none, 4, []⟩]))))
 (.seq
 (.many 0 ([⟨(some 14), .mov (.t 4), none, 0, []⟩] ++
    (⟨(some 15), .callF 41 [(.t 14)], none, 1, []⟩ ::
    ([⟨(some 16), .faddr 1 (.t 5), none, 2, []⟩,
     ⟨none, .store 1 (.t 16) (.t 15), none, 3, []⟩]))))
 (.seq
 (.many 0 ([⟨(some 17), .mov (.t 4), none, 0, []⟩] ++
    (⟨(some 18), .callF 41 [(.t 17)], none, 1, []⟩ ::
    ([⟨(some 19), .faddr 2 (.t 5), none, 2, []⟩,
     ⟨none, .store 1 (.t 19) (.t 18), none, 3, []⟩]))))
 (.seq
 (.many 0 ([⟨(some 20), .mov (.t 4), none, 0, []⟩] ++
    (⟨(some 21), .callF 41 [(.t 20)], none, 1, []⟩ ::
    ([⟨(some 22), .faddr 5 (.t 5), none, 2, []⟩,
     ⟨none, .store 1 (.t 22) (.t 21), none, 3, []⟩]))))
 (.seq
 (.many 0 ([⟨(some 23), .mov (.t 4), none, 0, []⟩] ++
    (⟨(some 24), .callF 41 [(.t 23)], none, 1, []⟩ ::
    ([⟨(some 25), .faddr 6 (.t 5), none, 2, []⟩,
     ⟨none, .store 1 (.t 25) (.t 24), none, 3, []⟩]))))
 (.seq
 (.many 0 ([⟨(some 26), .mov (.t 4), none, 0, []⟩] ++
    (⟨(some 27), .callF 41 [(.t 26)], none, 1, []⟩ ::
    ([⟨(some 28), .faddr 7 (.t 5), none, 2, []⟩,
     ⟨none, .store 1 (.t 28) (.t 27), none, 3, []⟩]))))
 (.seq
 (.many 0 ([⟨(some 29), .mov (.t 4), none, 0, []⟩] ++
    (⟨(some 30), .callF 40 [(.t 29)], none, 1, []⟩ ::
    ([⟨(some 31), .faddr 3 (.t 5), none, 2, []⟩,
     ⟨none, .store 1 (.t 31) (.t 30), none, 3, []⟩]))))
 (.seq
 (.many 0 ([⟨(some 32), .mov (.t 4), none, 0, []⟩] ++
    (⟨(some 33), .callF 40 [(.t 32)], none, 1, []⟩ ::
    ([⟨(some 34), .faddr 4 (.t 5), none, 2, []⟩,
     ⟨none, .store 1 (.t 34) (.t 33), none, 3, []⟩]))))
 (.seq
 (.many 0 ([⟨(some 35), .mov (.t 4), none, 0, []⟩] ++
    (⟨(some 36), .callF 42 [(.t 35), (.c (.int .i64 15))], none, 1, []⟩ ::
    ([⟨(some 6), .mov (.t 36), none, 2, []⟩]))))
 (.seq
 (.region 0 ([⟨(some 37), .mov (.t 6), none, 0, []⟩,
     ⟨(some 38), .bin .and (.t 37) (.c (.int .i64 1)), none, 1, []⟩,
     ⟨(some 39), .bin .neq (.t 38) (.c (.int .i64 0)), none, 2, []⟩,
     ⟨(some 40), .mov (.t 6), none, 3, []⟩,
     ⟨(some 41), .bin .and (.t 40) (.c (.int .i64 2)), none, 4, []⟩,
     ⟨(some 42), .bin .neq (.t 41) (.c (.int .i64 0)), none, 5, []⟩,
     ⟨(some 43), .mov (.t 6), none, 6, []⟩,
     ⟨(some 44), .bin .and (.t 43) (.c (.int .i64 4)), none, 7, []⟩,
     ⟨(some 45), .bin .neq (.t 44) (.c (.int .i64 0)), none, 8, []⟩,
     ⟨(some 46), .mov (.t 6), none, 9, []⟩,
     ⟨(some 47), .bin .and (.t 46) (.c (.int .i64 8)), none, 10, []⟩,
     ⟨(some 48), .bin .neq (.t 47) (.c (.int .i64 0)), none, 11, []⟩,
     ⟨(some 49), .build [(.bool false), (.bool false), (.bool false), (.bool false)] [(0, 1, (.t 39)), (1, 1, (.t 42)), (2, 1, (.t 45)), (3, 1, (.t 48))], none, 12, []⟩,
     ⟨(some 50), .faddr 8 (.t 5), none, 13, []⟩,
     ⟨none, .store 4 (.t 50) (.t 49), none, 14, []⟩]))
 (.seq
 (.many 0 ([⟨(some 51), .mov (.t 4), none, 0, []⟩] ++
    (⟨(some 52), .callF 43 [(.t 51)], none, 1, []⟩ ::
    ([⟨(some 53), .faddr 12 (.t 5), none, 2, []⟩,
     ⟨none, .store 6 (.t 53) (.t 52), none, 3, []⟩]))))
 (.seq
 (.many 0 ([⟨(some 54), .mov (.t 4), none, 0, []⟩] ++
    (⟨(some 55), .callF 44 [(.t 54), (.c (.int .i64 200))], none, 1, []⟩ ::
    ([⟨(some 56), .faddr 18 (.t 5), none, 2, []⟩,
     ⟨none, .store 1 (.t 56) (.t 55), none, 3, []⟩]))))
 (.seq
 (.seq
  (.many 0 ([⟨(some 57), .mov (.t 4), none, 0, []⟩] ++
     (⟨(some 58), .callF 45 [(.t 57)], none, 1, []⟩ ::
     ([⟨(some 7), .mov (.t 58), none, 2, []⟩]))))
  (.seq
  (.region 0 ([⟨(some 59), .mov (.t 7), none, 0, []⟩,
      ⟨(some 60), .bin .neq (.t 59) (.c (.int .i64 0)), none, 1, []⟩]))
  (.cond (.t 60)
   (.seq
    (.region 0 ([⟨(some 61), .build [(.string ⟨⟨[]⟩⟩), (.int .i64 0), (.int .i64 0), (.string ⟨⟨[]⟩⟩), (.string ⟨⟨[]⟩⟩), (.int .i64 0), (.int .i64 0), (.int .i64 0), (.bool false), (.bool false), (.bool false), (.bool false), (.int .i64 0), (.int .i64 0), (.int .i64 0), (.int .i64 0), (.int .i64 0), (.bool false), (.slice none 0 0)] [], none, 0, []⟩,
        ⟨(some 62), .mov (.t 7), none, 1, []⟩,
        ⟨none, .store 19 (.t 2) (.t 61), none, 2, []⟩,
        ⟨(some 3), .mov (.t 62), none, 3, []⟩]))
    (.ret))
   (.skip))))
 (.seq
 (.region 0 ([⟨(some 63), .loadN 19 (.t 5), none, 0, []⟩,
     ⟨none, .store 19 (.t 2) (.t 63), none, 1, []⟩,
     ⟨(some 3), .mov (.c (.int .i64 0)), none, 2, []⟩]))
 (.ret))))))))))))))))),
 [.cell 2 true 19, .tmp 3]⟩
def tithingref26_GetCall : CFunc := ⟨71,
 (.seq
 (.region 2 ([⟨(some 2), .alloc 28 [(.string ⟨⟨[]⟩⟩), (.int .i64 0), (.int .i64 0), (.string ⟨⟨[]⟩⟩), (.string ⟨⟨[]⟩⟩), (.int .i64 0), (.int .i64 0), (.int .i64 0), (.bool false), (.bool false), (.bool false), (.bool false), (.int .i64 0), (.int .i64 0), (.int .i64 0), (.int .i64 0), (.int .i64 0), (.bool false), (.slice none 0 0)], none, 0, []⟩,
     ⟨(some 3), .mov (.c (.int .i64 0)), none, 1, []⟩]))
 (.seq
 (.region 4 ([⟨(some 8), .mov (.t 0), none, 0, []⟩,
     ⟨(some 9), .build [(.slice none 0 0), (.int .i64 0), (.int .i64 0)] [(0, 1, (.t 8))], none, 1, []⟩,
     ⟨(some 10), .box 82 (.t 9), none, 2, []⟩,
     ⟨(some 4), .mov (.t 10), none, 3, []⟩]))
 (.seq
 (.region 1 ([⟨(some 5), .alloc 28 [(.string ⟨⟨[]⟩⟩), (.int .i64 0), (.int .i64 0), (.string ⟨⟨[]⟩⟩), (.string ⟨⟨[]⟩⟩), (.int .i64 0), (.int .i64 0), (.int .i64 0), (.bool false), (.bool false), (.bool false), (.bool false), (.int .i64 0), (.int .i64 0), (.int .i64 0), (.int .i64 0), (.int .i64 0), (.bool false), (.slice none 0 0)], none, 0, []⟩]))
 (.seq
 (.many 0 ([⟨(some 11), .mov (.t 4), none, 0, []⟩] ++
    (⟨(some 12), .callF 46 [(.t 11)], none, 1, []⟩ ::
    ([⟨(some 13), .faddr 0 (.t 5), none, 2, []⟩,
     ⟨none, .store 1 (.t 13) (.t 12), none, 3, []⟩]))))
 (.seq
 (.many 0 ([⟨(some 14), .mov (.t 4), none, 0, []⟩] ++
    (⟨(some 15), .callF 47 [(.t 14)], none, 1, []⟩ ::
    ([⟨(some 16), .faddr 1 (.t 5), none, 2, []⟩,
     ⟨none, .store 1 (.t 16) (.t 15), none, 3, []⟩]))))
 (.seq
 (.many 0 ([⟨(some 17), .mov (.t 4), none, 0, []⟩] ++
    (⟨(some 18), .callF 47 [(.t 17)], none, 1, []⟩ ::
    ([⟨(some 19), .faddr 2 (.t 5), none, 2, []⟩,
     ⟨none, .store 1 (.t 19) (.t 18), none, 3, []⟩]))))
 (.seq
 (.many 0 ([⟨(some 20), .mov (.t 4), none, 0, []⟩] ++
    (⟨(some 21), .callF 47 [(.t 20)], none, 1, []⟩ ::
    ([⟨(some 22), .faddr 5 (.t 5), none, 2, []⟩,
     ⟨none, .store 1 (.t 22) (.t 21), none, 3, []⟩]))))
 (.seq
 (.many 0 ([⟨(some 23), .mov (.t 4), none, 0, []⟩] ++
    (⟨(some 24), .callF 47 [(.t 23)], none, 1, []⟩ ::
    ([⟨(some 25), .faddr 6 (.t 5), none, 2, []⟩,
     ⟨none, .store 1 (.t 25) (.t 24), none, 3, []⟩]))))
 (.seq
 (.many 0 ([⟨(some 26), .mov (.t 4), none, 0, []⟩] ++
    (⟨(some 27), .callF 47 [(.t 26)], none, 1, []⟩ ::
    ([⟨(some 28), .faddr 7 (.t 5), none, 2, []⟩,
     ⟨none, .store 1 (.t 28) (.t 27), none, 3, []⟩]))))
 (.seq
 (.many 0 ([⟨(some 29), .mov (.t 4), none, 0, []⟩] ++
    (⟨(some 30), .callF 46 [(.t 29)], none, 1, []⟩ ::
    ([⟨(some 31), .faddr 3 (.t 5), none, 2, []⟩,
     ⟨none, .store 1 (.t 31) (.t 30), none, 3, []⟩]))))
 (.seq
 (.many 0 ([⟨(some 32), .mov (.t 4), none, 0, []⟩] ++
    (⟨(some 33), .callF 46 [(.t 32)], none, 1, []⟩ ::
    ([⟨(some 34), .faddr 4 (.t 5), none, 2, []⟩,
     ⟨none, .store 1 (.t 34) (.t 33), none, 3, []⟩]))))
 (.seq
 (.many 0 ([⟨(some 35), .mov (.t 4), none, 0, []⟩] ++
    (⟨(some 36), .callF 48 [(.t 35), (.c (.int .i64 1))], none, 1, []⟩ ::
    ([⟨(some 6), .mov (.t 36), none, 2, []⟩]))))
 (.seq
 (.many 0 ([⟨(some 37), .mov (.t 4), none, 0, []⟩,
     ⟨(some 38), .mov (.t 6), none, 1, []⟩,
     ⟨(some 39), .bin .lss (.t 38) (.c (.int .i64 16)), none, 2, []⟩] ++
    (⟨(some 40), .callF 49 [(.t 37), (.t 39), (.c (.int .i64 3))], none, 3, []⟩ ::
    ([]))))
 (.seq
 (.region 0 ([⟨(some 41), .mov (.t 6), none, 0, []⟩,
     ⟨(some 42), .bin .rem (.t 41) (.c (.int .i64 2)), none, 1, []⟩,
     ⟨(some 43), .bin .eql (.t 42) (.c (.int .i64 1)), none, 2, []⟩,
     ⟨(some 44), .mov (.t 6), none, 3, []⟩,
     ⟨(some 45), .bin .quo (.t 44) (.c (.int .i64 2)), none, 4, []⟩,
     ⟨(some 46), .bin .rem (.t 45) (.c (.int .i64 2)), none, 5, []⟩,
     ⟨(some 47), .bin .eql (.t 46) (.c (.int .i64 1)), none, 6, []⟩,
     ⟨(some 48), .mov (.t 6), none, 7, []⟩,
     ⟨(some 49), .bin .quo (.t 48) (.c (.int .i64 4)), none, 8, []⟩,
     ⟨(some 50), .bin .rem (.t 49) (.c (.int .i64 2)), none, 9, []⟩,
     ⟨(some 51), .bin .eql (.t 50) (.c (.int .i64 1)), none, 10, []⟩,
     ⟨(some 52), .mov (.t 6), none, 11, []⟩,
     ⟨(some 53), .bin .quo (.t 52) (.c (.int .i64 8)), none, 12, []⟩,
     ⟨(some 54), .bin .rem (.t 53) (.c (.int .i64 2)), none, 13, []⟩,
     ⟨(some 55), .bin .eql (.t 54) (.c (.int .i64 1)), none, 14, []⟩,
     ⟨(some 56), .build [(.bool false), (.bool false), (.bool false), (.bool false)] [(0, 1, (.t 43)), (1, 1, (.t 47)), (2, 1, (.t 51)), (3, 1, (.t 55))], none, 15, []⟩,
     ⟨(some 57), .faddr 8 (.t 5), none, 16, []⟩,
     ⟨none, .store 4 (.t 57) (.t 56), none, 17, []⟩]))
 (.seq
 (.many 0 ([⟨(some 58), .mov (.t 4), none, 0, []⟩] ++
    (⟨(some 59), .callF 50 [(.t 58)], none, 1, []⟩ ::
    ([⟨(some 60), .faddr 12 (.t 5), none, 2, []⟩,
     ⟨none, .store 6 (.t 60) (.t 59), none, 3, []⟩]))))
 (.seq
 (.many 0 ([⟨(some 61), .mov (.t 4), none, 0, []⟩] ++
    (⟨(some 62), .callF 51 [(.t 61), (.c (.int .i64 200))], none, 1, []⟩ ::
    ([⟨(some 63), .faddr 18 (.t 5), none, 2, []⟩,
     ⟨none, .store 1 (.t 63) (.t 62), none, 3, []⟩]))))
 (.seq
 (.seq
  (.many 0 ([⟨(some 64), .mov (.t 4), none, 0, []⟩] ++
     (⟨(some 65), .callF 52 [(.t 64)], none, 1, []⟩ ::
     ([⟨(some 7), .mov (.t 65), none, 2, []⟩]))))
  (.seq
  (.region 0 ([⟨(some 66), .mov (.t 7), none, 0, []⟩,
      ⟨(some 67), .bin .neq (.t 66) (.c (.int .i64 0)), none, 1, []⟩]))
  (.cond (.t 67)
   (.seq
    (.region 0 ([⟨(some 68), .build [(.string ⟨⟨[]⟩⟩), (.int .i64 0), (.int .i64 0), (.string ⟨⟨[]⟩⟩), (.string ⟨⟨[]⟩⟩), (.int .i64 0), (.int .i64 0), (.int .i64 0), (.bool false), (.bool false), (.bool false), (.bool false), (.int .i64 0), (.int .i64 0), (.int .i64 0), (.int .i64 0), (.int .i64 0), (.bool false), (.slice none 0 0)] [], none, 0, []⟩,
        ⟨(some 69), .mov (.t 7), none, 1, []⟩,
        ⟨none, .store 19 (.t 2) (.t 68), none, 2, []⟩,
        ⟨(some 3), .mov (.t 69), none, 3, []⟩]))
    (.ret))
   (.skip))))
 (.seq
 (.region 0 ([⟨(some 70), .loadN 19 (.t 5), none, 0, []⟩,
     ⟨none, .store 19 (.t 2) (.t 70), none, 1, []⟩,
     ⟨(some 3), .mov (.c (.int .i64 0)), none, 2, []⟩]))
 (.ret))))))))))))))))))),
 [.cell 2 true 19, .tmp 3]⟩
def tithingref26_SameCalls : CFunc := ⟨82,
 (.seq
 (.region 3 ([⟨(some 2), .box 28 (.t 0), none, 0, []⟩,
     ⟨(some 3), .box 28 (.t 1), none, 1, []⟩,
     ⟨(some 4), .mov (.c (.bool false)), none, 2, []⟩]))
 (.seq
 (.region 0 ([⟨(some 5), .faddr 0 (.t 2), none, 0, []⟩,
     ⟨(some 6), .load1 (.t 5), none, 1, []⟩,
     ⟨(some 7), .faddr 0 (.t 3), none, 2, []⟩,
     ⟨(some 8), .load1 (.t 7), none, 3, []⟩,
     ⟨(some 9), .bin .eql (.t 6) (.t 8), none, 4, []⟩,
     ⟨(some 10), .mov (.t 9), none, 5, []⟩,
     ⟨(some 11), .faddr 1 (.t 2), (some ((some 10), true)), 6, []⟩,
     ⟨(some 12), .load1 (.t 11), (some ((some 10), true)), 7, []⟩,
     ⟨(some 13), .faddr 1 (.t 3), (some ((some 10), true)), 8, []⟩,
     ⟨(some 14), .load1 (.t 13), (some ((some 10), true)), 9, []⟩,
     ⟨(some 15), .bin .eql (.t 12) (.t 14), (some ((some 10), true)), 10, []⟩,
     ⟨(some 16), .pick (.t 10) (.t 15) (.c (.bool false)), none, 11, []⟩,
     ⟨(some 17), .mov (.t 16), none, 12, []⟩,
     ⟨(some 18), .faddr 2 (.t 2), (some ((some 17), true)), 13, []⟩,
     ⟨(some 19), .load1 (.t 18), (some ((some 17), true)), 14, []⟩,
     ⟨(some 20), .faddr 2 (.t 3), (some ((some 17), true)), 15, []⟩,
     ⟨(some 21), .load1 (.t 20), (some ((some 17), true)), 16, []⟩,
     ⟨(some 22), .bin .eql (.t 19) (.t 21), (some ((some 17), true)), 17, []⟩,
     ⟨(some 23), .pick (.t 17) (.t 22) (.c (.bool false)), none, 18, []⟩,
     ⟨(some 24), .mov (.t 23), none, 19, []⟩,
     ⟨(some 25), .faddr 3 (.t 2), (some ((some 24), true)), 20, []⟩,
     ⟨(some 26), .load1 (.t 25), (some ((some 24), true)), 21, []⟩,
     ⟨(some 27), .faddr 3 (.t 3), (some ((some 24), true)), 22, []⟩,
     ⟨(some 28), .load1 (.t 27), (some ((some 24), true)), 23, []⟩,
     ⟨(some 29), .bin .eql (.t 26) (.t 28), (some ((some 24), true)), 24, []⟩,
     ⟨(some 30), .pick (.t 24) (.t 29) (.c (.bool false)), none, 25, []⟩,
     ⟨(some 31), .mov (.t 30), none, 26, []⟩,
     ⟨(some 32), .faddr 4 (.t 2), (some ((some 31), true)), 27, []⟩,
     ⟨(some 33), .load1 (.t 32), (some ((some 31), true)), 28, []⟩,
     ⟨(some 34), .faddr 4 (.t 3), (some ((some 31), true)), 29, []⟩,
     ⟨(some 35), .load1 (.t 34), (some ((some 31), true)), 30, []⟩,
     ⟨(some 36), .bin .eql (.t 33) (.t 35), (some ((some 31), true)), 31, []⟩,
     ⟨(some 37), .pick (.t 31) (.t 36) (.c (.bool false)), none, 32, []⟩,
     ⟨(some 38), .mov (.t 37), none, 33, []⟩,
     ⟨(some 39), .faddr 5 (.t 2), (some ((some 38), true)), 34, []⟩,
     ⟨(some 40), .load1 (.t 39), (some ((some 38), true)), 35, []⟩,
     ⟨(some 41), .faddr 5 (.t 3), (some ((some 38), true)), 36, []⟩,
     ⟨(some 42), .load1 (.t 41), (some ((some 38), true)), 37, []⟩,
     ⟨(some 43), .bin .eql (.t 40) (.t 42), (some ((some 38), true)), 38, []⟩,
     ⟨(some 44), .pick (.t 38) (.t 43) (.c (.bool false)), none, 39, []⟩,
     ⟨(some 45), .mov (.t 44), none, 40, []⟩,
     ⟨(some 46), .faddr 6 (.t 2), (some ((some 45), true)), 41, []⟩,
     ⟨(some 47), .load1 (.t 46), (some ((some 45), true)), 42, []⟩,
     ⟨(some 48), .faddr 6 (.t 3), (some ((some 45), true)), 43, []⟩,
     ⟨(some 49), .load1 (.t 48), (some ((some 45), true)), 44, []⟩,
     ⟨(some 50), .bin .eql (.t 47) (.t 49), (some ((some 45), true)), 45, []⟩,
     ⟨(some 51), .pick (.t 45) (.t 50) (.c (.bool false)), none, 46, []⟩,
     ⟨(some 52), .mov (.t 51), none, 47, []⟩,
     ⟨(some 53), .faddr 7 (.t 2), (some ((some 52), true)), 48, []⟩,
     ⟨(some 54), .load1 (.t 53), (some ((some 52), true)), 49, []⟩,
     ⟨(some 55), .faddr 7 (.t 3), (some ((some 52), true)), 50, []⟩,
     ⟨(some 56), .load1 (.t 55), (some ((some 52), true)), 51, []⟩,
     ⟨(some 57), .bin .eql (.t 54) (.t 56), (some ((some 52), true)), 52, []⟩,
     ⟨(some 58), .pick (.t 52) (.t 57) (.c (.bool false)), none, 53, []⟩,
     ⟨(some 59), .mov (.t 58), none, 54, []⟩,
     ⟨(some 60), .faddr 8 (.t 2), (some ((some 59), true)), 55, []⟩,
     ⟨(some 61), .loadN 4 (.t 60), (some ((some 59), true)), 56, []⟩,
     ⟨(some 62), .faddr 8 (.t 3), (some ((some 59), true)), 57, []⟩,
     ⟨(some 63), .loadN 4 (.t 62), (some ((some 59), true)), 58, []⟩,
     ⟨(some 64), .eqCells false 4 [(0, .bool), (1, .bool), (2, .bool), (3, .bool)] (.t 61) (.t 63), (some ((some 59), true)), 59, []⟩,
     ⟨(some 65), .pick (.t 59) (.t 64) (.c (.bool false)), none, 60, []⟩,
     ⟨(some 66), .mov (.t 65), none, 61, []⟩,
     ⟨(some 67), .faddr 12 (.t 2), (some ((some 66), true)), 62, []⟩,
     ⟨(some 68), .loadN 6 (.t 67), (some ((some 66), true)), 63, []⟩,
     ⟨(some 69), .faddr 12 (.t 3), (some ((some 66), true)), 64, []⟩,
     ⟨(some 70), .loadN 6 (.t 69), (some ((some 66), true)), 65, []⟩,
     ⟨(some 71), .eqCells false 6 [(0, .int), (1, .int), (2, .int), (3, .int), (4, .int), (5, .bool)] (.t 68) (.t 70), (some ((some 66), true)), 66, []⟩,
     ⟨(some 72), .pick (.t 66) (.t 71) (.c (.bool false)), none, 67, []⟩,
     ⟨(some 73), .mov (.t 72), none, 68, []⟩,
     ⟨(some 74), .faddr 18 (.t 2), (some ((some 73), true)), 69, []⟩,
     ⟨(some 75), .load1 (.t 74), (some ((some 73), true)), 70, []⟩,
     ⟨(some 76), .convBS (.t 75), (some ((some 73), true)), 71, []⟩,
     ⟨(some 77), .faddr 18 (.t 3), (some ((some 73), true)), 72, []⟩,
     ⟨(some 78), .load1 (.t 77), (some ((some 73), true)), 73, []⟩,
     ⟨(some 79), .convBS (.t 78), (some ((some 73), true)), 74, []⟩,
     ⟨(some 80), .bin .eql (.t 76) (.t 79), (some ((some 73), true)), 75, []⟩,
     ⟨(some 81), .pick (.t 73) (.t 80) (.c (.bool false)), none, 76, []⟩,
     ⟨(some 4), .mov (.t 81), none, 77, []⟩]))
 (.ret))),
 [.tmp 4]⟩
def tithingref25_PutRights : CFunc := ⟨39,
 (.seq
 (.region 3 ([⟨(some 1), .box 25 (.t 0), none, 0, []⟩,
     ⟨(some 2), .mov (.c (.slice none 0 0)), none, 1, []⟩,
     ⟨(some 3), .mov (.c (.int .i64 0)), none, 2, []⟩]))
 (.seq
 (.seq
  (.many 0 ([⟨(some 5), .loadN 6 (.t 1), none, 0, []⟩] ++
     (⟨(some 6), .callF 82 [(.t 5)], none, 1, []⟩ ::
     ([⟨(some 7), .un .not (.t 6), none, 2, []⟩,
      ⟨(some 8), .mov (.t 7), none, 3, []⟩,
      ⟨(some 9), .faddr 0 (.t 1), (some ((some 8), false)), 4, []⟩,
      ⟨(some 10), .load1 (.t 9), (some ((some 8), false)), 5, []⟩,
      ⟨(some 11), .bin .gtr (.t 10) (.c (.int .i64 4294967295)), (some ((some 8), false)), 6, []⟩,
      ⟨(some 12), .pick (.t 8) (.c (.bool true)) (.t 11), none, 7, []⟩,
      ⟨(some 13), .mov (.t 12), none, 8, []⟩,
      ⟨(some 14), .faddr 1 (.t 1), (some ((some 13), false)), 9, []⟩,
      ⟨(some 15), .load1 (.t 14), (some ((some 13), false)), 10, []⟩,
      ⟨(some 16), .bin .gtr (.t 15) (.c (.int .i64 4294967295)), (some ((some 13), false)), 11, []⟩,
      ⟨(some 17), .pick (.t 13) (.c (.bool true)) (.t 16), none, 12, []⟩]))))
  (.cond (.t 17)
   (.seq
    (.region 0 ([⟨(some 2), .mov (.c (.slice none 0 0)), none, 0, []⟩,
        ⟨(some 3), .mov (.c (.int .i64 2)), none, 1, []⟩]))
    (.ret))
   (.skip)))
 (.seq
 (.region 0 ([⟨(some 4), .mov (.c (.int .u8 0)), none, 0, []⟩]))
 (.seq
 (.seq
  (.region 0 ([⟨(some 18), .faddr 5 (.t 1), none, 0, []⟩,
      ⟨(some 19), .load1 (.t 18), none, 1, []⟩]))
  (.cond (.t 19)
   (.region 0 ([⟨(some 4), .mov (.c (.int .u8 1)), none, 0, []⟩]))
   (.skip)))
 (.seq
 (.region 21 ([⟨(some 20), .faddr 0 (.t 1), none, 0, []⟩,
     ⟨(some 21), .load1 (.t 20), none, 1, []⟩,
     ⟨(some 23), .faddr 1 (.t 1), none, 3, []⟩,
     ⟨(some 24), .load1 (.t 23), none, 4, []⟩,
     ⟨(some 27), .faddr 2 (.t 1), none, 7, []⟩,
     ⟨(some 28), .load1 (.t 27), none, 8, []⟩,
     ⟨(some 29), .convI .u8 (.t 28), none, 9, []⟩,
     ⟨(some 30), .faddr 3 (.t 1), none, 10, []⟩,
     ⟨(some 31), .load1 (.t 30), none, 11, []⟩,
     ⟨(some 32), .convI .u8 (.t 31), none, 12, []⟩,
     ⟨(some 33), .faddr 4 (.t 1), none, 13, []⟩,
     ⟨(some 34), .load1 (.t 33), none, 14, []⟩,
     ⟨(some 35), .convI .u8 (.t 34), none, 15, []⟩,
     ⟨(some 36), .mov (.t 4), none, 16, []⟩] ++
    (⟨(some 22), .callF 83 [(.t 21)], none, 2, [((some 24), .load1 (.t 23), none), ((some 28), .load1 (.t 27), none), ((some 31), .load1 (.t 30), none), ((some 34), .load1 (.t 33), none)]⟩ ::
    (⟨(some 25), .callF 83 [(.t 24)], none, 5, [((some 28), .load1 (.t 27), none), ((some 31), .load1 (.t 30), none), ((some 34), .load1 (.t 33), none)]⟩ ::
    ([⟨(some 26), .append 5 1 1 (.t 22) (.t 25), none, 6, [((some 28), .load1 (.t 27), none), ((some 31), .load1 (.t 30), none), ((some 34), .load1 (.t 33), none)]⟩,
     ⟨(some 37), .buildSlice 5 4 [(.int .u8 0), (.int .u8 0), (.int .u8 0), (.int .u8 0)] [(0, 1, (.t 29)), (1, 1, (.t 32)), (2, 1, (.t 35)), (3, 1, (.t 36))], none, 17, []⟩,
     ⟨(some 38), .append 5 1 1 (.t 26) (.t 37), none, 18, []⟩,
     ⟨(some 2), .mov (.t 38), none, 19, []⟩,
     ⟨(some 3), .mov (.c (.int .i64 0)), none, 20, []⟩])))))
 (.ret)))))),
 [.tmp 2, .tmp 3]⟩
def _tithing_client_reader_text : CFunc := ⟨14,
 (.seq
 (.region 0 ([⟨(some 2), .mov (.c (.string ⟨⟨[]⟩⟩)), none, 0, []⟩]))
 (.seq
 (.many 0 ([⟨(some 4), .mov (.t 0), none, 0, []⟩] ++
    (⟨(some 5), .callF 55 [(.t 4), (.c (.int .i64 1))], none, 1, []⟩ ::
    ([⟨(some 3), .mov (.t 5), none, 2, []⟩]))))
 (.seq
 (.seq
  (.region 0 ([⟨(some 6), .mov (.t 3), none, 0, []⟩,
      ⟨(some 7), .bin .gtr (.t 6) (.c (.int .i64 31)), none, 1, []⟩]))
  (.cond (.t 7)
   (.seq
    (.many 0 ([⟨(some 8), .mov (.t 0), none, 0, []⟩] ++
       (⟨(some 9), .callF 84 [(.t 8)], none, 1, []⟩ ::
       ([]))))
    (.seq
    (.region 0 ([⟨(some 2), .mov (.c (.string ⟨⟨[]⟩⟩)), none, 0, []⟩]))
    (.ret)))
   (.skip)))
 (.seq
 (.many 0 ([⟨(some 10), .mov (.t 0), none, 0, []⟩,
     ⟨(some 11), .mov (.t 3), none, 1, []⟩] ++
    (⟨(some 12), .callF 85 [(.t 10), (.t 11)], none, 2, []⟩ ::
    ([⟨(some 13), .convBS (.t 12), none, 3, []⟩,
     ⟨(some 2), .mov (.t 13), none, 4, []⟩]))))
 (.ret))))),
 [.tmp 2]⟩
def _tithing_client_reader_number : CFunc := ⟨6,
 (.seq
 (.region 0 ([⟨(some 2), .mov (.c (.int .i64 0)), none, 0, []⟩]))
 (.seq
 (.many 0 ([⟨(some 3), .mov (.t 0), none, 0, []⟩] ++
    (⟨(some 4), .callF 55 [(.t 3), (.c (.int .i64 4))], none, 1, []⟩ ::
    ([⟨(some 5), .bin .sub (.t 4) (.c (.int .i64 2147483648)), none, 2, []⟩,
     ⟨(some 2), .mov (.t 5), none, 3, []⟩]))))
 (.ret))),
 [.tmp 2]⟩
def _tithing_client_reader_most : CFunc := ⟨14,
 (.seq
 (.region 0 ([⟨(some 4), .mov (.c (.int .i64 0)), none, 0, []⟩]))
 (.seq
 (.many 0 ([⟨(some 6), .mov (.t 0), none, 0, []⟩] ++
    (⟨(some 7), .callF 55 [(.t 6), (.c (.int .i64 1))], none, 1, []⟩ ::
    ([⟨(some 5), .mov (.t 7), none, 2, []⟩]))))
 (.seq
 (.seq
  (.region 0 ([⟨(some 8), .mov (.t 5), none, 0, []⟩,
      ⟨(some 9), .mov (.t 1), none, 1, []⟩,
      ⟨(some 10), .bin .gtr (.t 8) (.t 9), none, 2, []⟩]))
  (.cond (.t 10)
   (.many 0 ([⟨(some 11), .mov (.t 0), none, 0, []⟩] ++
      (⟨(some 12), .callF 84 [(.t 11)], none, 1, []⟩ ::
      ([]))))
   (.skip)))
 (.seq
 (.region 0 ([⟨(some 13), .mov (.t 5), none, 0, []⟩,
     ⟨(some 4), .mov (.t 13), none, 1, []⟩]))
 (.ret))))),
 [.tmp 4]⟩
def _tithing_client_reader_rights : CFunc := ⟨36,
 (.seq
 (.region 1 ([⟨(some 2), .alloc 25 [(.int .i64 0), (.int .i64 0), (.int .i64 0), (.int .i64 0), (.int .i64 0), (.bool false)], none, 0, []⟩]))
 (.seq
 (.region 1 ([⟨(some 3), .alloc 25 [(.int .i64 0), (.int .i64 0), (.int .i64 0), (.int .i64 0), (.int .i64 0), (.bool false)], none, 0, []⟩]))
 (.seq
 (.many 0 ([⟨(some 4), .mov (.t 0), none, 0, []⟩] ++
    (⟨(some 5), .callF 55 [(.t 4), (.c (.int .i64 4))], none, 1, []⟩ ::
    ([⟨(some 6), .faddr 0 (.t 3), none, 2, []⟩,
     ⟨none, .store 1 (.t 6) (.t 5), none, 3, []⟩]))))
 (.seq
 (.many 0 ([⟨(some 7), .mov (.t 0), none, 0, []⟩] ++
    (⟨(some 8), .callF 55 [(.t 7), (.c (.int .i64 4))], none, 1, []⟩ ::
    ([⟨(some 9), .faddr 1 (.t 3), none, 2, []⟩,
     ⟨none, .store 1 (.t 9) (.t 8), none, 3, []⟩]))))
 (.seq
 (.many 0 ([⟨(some 10), .mov (.t 0), none, 0, []⟩] ++
    (⟨(some 11), .callF 42 [(.t 10), (.c (.int .i64 7))], none, 1, []⟩ ::
    ([⟨(some 12), .faddr 2 (.t 3), none, 2, []⟩,
     ⟨none, .store 1 (.t 12) (.t 11), none, 3, []⟩]))))
 (.seq
 (.many 0 ([⟨(some 13), .mov (.t 0), none, 0, []⟩] ++
    (⟨(some 14), .callF 42 [(.t 13), (.c (.int .i64 7))], none, 1, []⟩ ::
    ([⟨(some 15), .faddr 3 (.t 3), none, 2, []⟩,
     ⟨none, .store 1 (.t 15) (.t 14), none, 3, []⟩]))))
 (.seq
 (.many 0 ([⟨(some 16), .mov (.t 0), none, 0, []⟩] ++
    (⟨(some 17), .callF 42 [(.t 16), (.c (.int .i64 7))], none, 1, []⟩ ::
    ([⟨(some 18), .faddr 4 (.t 3), none, 2, []⟩,
     ⟨none, .store 1 (.t 18) (.t 17), none, 3, []⟩]))))
 (.seq
 (.many 0 ([⟨(some 19), .mov (.t 0), none, 0, []⟩] ++
    (⟨(some 20), .callF 42 [(.t 19), (.c (.int .i64 1))], none, 1, []⟩ ::
    ([⟨(some 21), .bin .eql (.t 20) (.c (.int .i64 1)), none, 2, []⟩,
     ⟨(some 22), .faddr 5 (.t 3), none, 3, []⟩,
     ⟨none, .store 1 (.t 22) (.t 21), none, 4, []⟩]))))
 (.seq
 (.seq
  (.many 0 ([⟨(some 23), .mov (.t 0), none, 0, []⟩,
      ⟨(some 24), .nilCheck (.t 23), none, 1, []⟩,
      ⟨(some 25), .faddr 2 (.t 24), none, 2, []⟩,
      ⟨(some 26), .load1 (.t 25), none, 3, []⟩,
      ⟨(some 27), .bin .eql (.t 26) (.c (.int .i64 0)), none, 4, []⟩,
      ⟨(some 28), .mov (.t 27), none, 5, []⟩,
      ⟨(some 29), .loadN 6 (.t 3), (some ((some 28), true)), 6, []⟩] ++
     (⟨(some 30), .callF 78 [(.t 29)], (some ((some 28), true)), 7, []⟩ ::
     ([⟨(some 31), .un .not (.t 30), (some ((some 28), true)), 8, []⟩,
      ⟨(some 32), .pick (.t 28) (.t 31) (.c (.bool false)), none, 9, []⟩]))))
  (.cond (.t 32)
   (.many 0 ([⟨(some 33), .mov (.t 0), none, 0, []⟩] ++
      (⟨(some 34), .callF 84 [(.t 33)], none, 1, []⟩ ::
      ([]))))
   (.skip)))
 (.seq
 (.region 0 ([⟨(some 35), .loadN 6 (.t 3), none, 0, []⟩,
     ⟨none, .store 6 (.t 2) (.t 35), none, 1, []⟩]))
 (.ret))))))))))),
 [.cell 2 true 6]⟩
def _tithing_client_reader_long : CFunc := ⟨17,
 (.seq
 (.region 0 ([⟨(some 4), .mov (.c (.slice none 0 0)), none, 0, []⟩]))
 (.seq
 (.many 0 ([⟨(some 6), .mov (.t 0), none, 0, []⟩] ++
    (⟨(some 7), .callF 55 [(.t 6), (.c (.int .i64 2))], none, 1, []⟩ ::
    ([⟨(some 5), .mov (.t 7), none, 2, []⟩]))))
 (.seq
 (.seq
  (.region 0 ([⟨(some 8), .mov (.t 5), none, 0, []⟩,
      ⟨(some 9), .mov (.t 1), none, 1, []⟩,
      ⟨(some 10), .bin .gtr (.t 8) (.t 9), none, 2, []⟩]))
  (.cond (.t 10)
   (.seq
    (.many 0 ([⟨(some 11), .mov (.t 0), none, 0, []⟩] ++
       (⟨(some 12), .callF 84 [(.t 11)], none, 1, []⟩ ::
       ([]))))
    (.seq
    (.region 0 ([⟨(some 4), .mov (.c (.slice none 0 0)), none, 0, []⟩]))
    (.ret)))
   (.skip)))
 (.seq
 (.many 0 ([⟨(some 13), .mov (.t 0), none, 0, []⟩,
     ⟨(some 14), .mov (.t 5), none, 1, []⟩] ++
    (⟨(some 15), .callF 85 [(.t 13), (.t 14)], none, 2, []⟩ ::
    (⟨(some 16), .callF 76 [(.t 15)], none, 3, []⟩ ::
    ([⟨(some 4), .mov (.t 16), none, 4, []⟩])))))
 (.ret))))),
 [.tmp 4]⟩
def _tithing_client_reader_end : CFunc := ⟨19,
 (.seq
 (.region 0 ([⟨(some 2), .mov (.c (.int .i64 0)), none, 0, []⟩]))
 (.seq
 (.seq
  (.region 0 ([⟨(some 3), .mov (.t 0), none, 0, []⟩,
      ⟨(some 4), .nilCheck (.t 3), none, 1, []⟩,
      ⟨(some 5), .faddr 1 (.t 4), none, 2, []⟩,
      ⟨(some 6), .load1 (.t 5), none, 3, []⟩,
      ⟨(some 7), .mov (.t 0), none, 4, []⟩,
      ⟨(some 8), .nilCheck (.t 7), none, 5, []⟩,
      ⟨(some 9), .faddr 0 (.t 8), none, 6, []⟩,
      ⟨(some 10), .load1 (.t 9), none, 7, []⟩,
      ⟨(some 11), .lenV (.t 10), none, 8, []⟩,
      ⟨(some 12), .bin .neq (.t 6) (.t 11), none, 9, []⟩]))
  (.cond (.t 12)
   (.many 0 ([⟨(some 13), .mov (.t 0), none, 0, []⟩] ++
      (⟨(some 14), .callF 84 [(.t 13)], none, 1, []⟩ ::
      ([]))))
   (.skip)))
 (.seq
 (.region 0 ([⟨(some 15), .mov (.t 0), none, 0, []⟩,
     ⟨(some 16), .nilCheck (.t 15), none, 1, []⟩,
     ⟨(some 17), .faddr 2 (.t 16), none, 2, []⟩,
     ⟨(some 18), .load1 (.t 17), none, 3, []⟩,
     ⟨(some 2), .mov (.t 18), none, 4, []⟩]))
 (.ret)))),
 [.tmp 2]⟩
def _tithing_tithingref26_reader_text : CFunc := ⟨19,
 (.seq
 (.region 0 ([⟨(some 2), .mov (.c (.string ⟨⟨[]⟩⟩)), none, 0, []⟩]))
 (.seq
 (.many 0 ([⟨(some 4), .mov (.t 0), none, 0, []⟩] ++
    (⟨(some 5), .callF 48 [(.t 4), (.c (.int .i64 1))], none, 1, []⟩ ::
    ([⟨(some 3), .mov (.t 5), none, 2, []⟩]))))
 (.seq
 (.many 0 ([⟨(some 6), .mov (.t 0), none, 0, []⟩,
     ⟨(some 7), .mov (.t 3), none, 1, []⟩,
     ⟨(some 8), .bin .leq (.t 7) (.c (.int .i64 31)), none, 2, []⟩] ++
    (⟨(some 9), .callF 49 [(.t 6), (.t 8), (.c (.int .i64 3))], none, 3, []⟩ ::
    ([]))))
 (.seq
 (.seq
  (.region 0 ([⟨(some 10), .mov (.t 0), none, 0, []⟩,
      ⟨(some 11), .nilCheck (.t 10), none, 1, []⟩,
      ⟨(some 12), .faddr 2 (.t 11), none, 2, []⟩,
      ⟨(some 13), .load1 (.t 12), none, 3, []⟩,
      ⟨(some 14), .bin .neq (.t 13) (.c (.int .i64 0)), none, 4, []⟩]))
  (.cond (.t 14)
   (.seq
    (.region 0 ([⟨(some 2), .mov (.c (.string ⟨⟨[]⟩⟩)), none, 0, []⟩]))
    (.ret))
   (.skip)))
 (.seq
 (.many 0 ([⟨(some 15), .mov (.t 0), none, 0, []⟩,
     ⟨(some 16), .mov (.t 3), none, 1, []⟩] ++
    (⟨(some 17), .callF 86 [(.t 15), (.t 16)], none, 2, []⟩ ::
    ([⟨(some 18), .convBS (.t 17), none, 3, []⟩,
     ⟨(some 2), .mov (.t 18), none, 4, []⟩]))))
 (.ret)))))),
 [.tmp 2]⟩
def _tithing_tithingref26_reader_four : CFunc := ⟨6,
 (.seq
 (.region 0 ([⟨(some 2), .mov (.c (.int .i64 0)), none, 0, []⟩]))
 (.seq
 (.many 0 ([⟨(some 3), .mov (.t 0), none, 0, []⟩] ++
    (⟨(some 4), .callF 48 [(.t 3), (.c (.int .i64 4))], none, 1, []⟩ ::
    ([⟨(some 5), .bin .sub (.t 4) (.c (.int .i64 2147483648)), none, 2, []⟩,
     ⟨(some 2), .mov (.t 5), none, 3, []⟩]))))
 (.ret))),
 [.tmp 2]⟩
def _tithing_tithingref26_reader_number_l0 : CCode :=
 (.seq
 (.seq
  (.region 0 ([⟨(some 11), .mov (.t 7), none, 0, []⟩,
      ⟨(some 12), .mov (.t 1), none, 1, []⟩,
      ⟨(some 13), .bin .lss (.t 11) (.t 12), none, 2, []⟩]))
  (.cond (.t 13)
   (.skip)
   (.exit 0)))
 (.seq
 (.block 1
   (.region 0 ([⟨(some 16), .mov (.t 6), none, 0, []⟩,
       ⟨(some 17), .bin .mul (.c (.int .i64 256)) (.t 16), none, 1, []⟩,
       ⟨(some 18), .mov (.t 5), none, 2, []⟩,
       ⟨(some 19), .mov (.t 7), none, 3, []⟩,
       ⟨(some 20), .iaddrV 1 (.t 18) (.t 19), none, 4, []⟩,
       ⟨(some 21), .load1 (.t 20), none, 5, []⟩,
       ⟨(some 22), .convI .i64 (.t 21), none, 6, []⟩,
       ⟨(some 23), .bin .add (.t 17) (.t 22), none, 7, []⟩,
       ⟨(some 6), .mov (.t 23), none, 8, []⟩])))
 (.region 0 ([⟨(some 14), .mov (.t 7), none, 0, []⟩,
    ⟨(some 15), .bin .add (.t 14) (.c (.int .i64 1)), none, 1, []⟩,
    ⟨(some 7), .mov (.t 15), none, 2, []⟩]))))
def _tithing_tithingref26_reader_number : CFunc := ⟨25,
 (.seq
 (.region 0 ([⟨(some 4), .mov (.c (.int .i64 0)), none, 0, []⟩]))
 (.seq
 (.many 0 ([⟨(some 8), .mov (.t 0), none, 0, []⟩,
     ⟨(some 9), .mov (.t 1), none, 1, []⟩] ++
    (⟨(some 10), .callF 86 [(.t 8), (.t 9)], none, 2, []⟩ ::
    ([⟨(some 5), .mov (.t 10), none, 3, []⟩]))))
 (.seq
 (.region 0 ([⟨(some 6), .mov (.c (.int .i64 0)), none, 0, []⟩]))
 (.seq
 (.seq
  (.region 0 ([⟨(some 7), .mov (.c (.int .i64 0)), none, 0, []⟩]))
  (.block 0
   (.loop _tithing_tithingref26_reader_number_l0)))
 (.seq
 (.region 0 ([⟨(some 24), .mov (.t 6), none, 0, []⟩,
     ⟨(some 4), .mov (.t 24), none, 1, []⟩]))
 (.ret)))))),
 [.tmp 4]⟩
def _tithing_tithingref26_reader_check : CFunc := ⟨19,
 (.seq
 (.region 0 ([⟨(some 6), .mov (.t 1), none, 0, []⟩,
     ⟨(some 7), .un .not (.t 6), none, 1, []⟩,
     ⟨(some 8), .mov (.t 7), none, 2, []⟩,
     ⟨(some 9), .mov (.t 0), (some ((some 8), true)), 3, []⟩,
     ⟨(some 10), .nilCheck (.t 9), (some ((some 8), true)), 4, []⟩,
     ⟨(some 11), .faddr 2 (.t 10), (some ((some 8), true)), 5, []⟩,
     ⟨(some 12), .load1 (.t 11), (some ((some 8), true)), 6, []⟩,
     ⟨(some 13), .bin .eql (.t 12) (.c (.int .i64 0)), (some ((some 8), true)), 7, []⟩,
     ⟨(some 14), .pick (.t 8) (.t 13) (.c (.bool false)), none, 8, []⟩]))
 (.cond (.t 14)
  (.region 0 ([⟨(some 15), .mov (.t 0), none, 0, []⟩,
      ⟨(some 16), .mov (.t 2), none, 1, []⟩,
      ⟨(some 17), .nilCheck (.t 15), none, 2, []⟩,
      ⟨(some 18), .faddr 2 (.t 17), none, 3, []⟩,
      ⟨none, .store 1 (.t 18) (.t 16), none, 4, []⟩]))
  (.skip))),
 []⟩
def _tithing_tithingref26_reader_rights : CFunc := ⟨41,
 (.seq
 (.region 1 ([⟨(some 2), .alloc 25 [(.int .i64 0), (.int .i64 0), (.int .i64 0), (.int .i64 0), (.int .i64 0), (.bool false)], none, 0, []⟩]))
 (.seq
 (.region 1 ([⟨(some 3), .alloc 25 [(.int .i64 0), (.int .i64 0), (.int .i64 0), (.int .i64 0), (.int .i64 0), (.bool false)], none, 0, []⟩]))
 (.seq
 (.many 0 ([⟨(some 6), .mov (.t 0), none, 0, []⟩] ++
    (⟨(some 7), .callF 48 [(.t 6), (.c (.int .i64 4))], none, 1, []⟩ ::
    ([⟨(some 8), .faddr 0 (.t 3), none, 2, []⟩,
     ⟨none, .store 1 (.t 8) (.t 7), none, 3, []⟩]))))
 (.seq
 (.many 0 ([⟨(some 9), .mov (.t 0), none, 0, []⟩] ++
    (⟨(some 10), .callF 48 [(.t 9), (.c (.int .i64 4))], none, 1, []⟩ ::
    ([⟨(some 11), .faddr 1 (.t 3), none, 2, []⟩,
     ⟨none, .store 1 (.t 11) (.t 10), none, 3, []⟩]))))
 (.seq
 (.many 0 ([⟨(some 12), .mov (.t 0), none, 0, []⟩] ++
    (⟨(some 13), .callF 87 [(.t 12), (.c (.int .i64 7))], none, 1, []⟩ ::
    ([⟨(some 14), .faddr 2 (.t 3), none, 2, []⟩,
     ⟨none, .store 1 (.t 14) (.t 13), none, 3, []⟩]))))
 (.seq
 (.many 0 ([⟨(some 15), .mov (.t 0), none, 0, []⟩] ++
    (⟨(some 16), .callF 87 [(.t 15), (.c (.int .i64 7))], none, 1, []⟩ ::
    ([⟨(some 17), .faddr 3 (.t 3), none, 2, []⟩,
     ⟨none, .store 1 (.t 17) (.t 16), none, 3, []⟩]))))
 (.seq
 (.many 0 ([⟨(some 18), .mov (.t 0), none, 0, []⟩] ++
    (⟨(some 19), .callF 87 [(.t 18), (.c (.int .i64 7))], none, 1, []⟩ ::
    ([⟨(some 20), .faddr 4 (.t 3), none, 2, []⟩,
     ⟨none, .store 1 (.t 20) (.t 19), none, 3, []⟩]))))
 (.seq
 (.many 0 ([⟨(some 21), .mov (.t 0), none, 0, []⟩] ++
    (⟨(some 22), .callF 87 [(.t 21), (.c (.int .i64 1))], none, 1, []⟩ ::
    ([⟨(some 23), .bin .eql (.t 22) (.c (.int .i64 1)), none, 2, []⟩,
     ⟨(some 24), .faddr 5 (.t 3), none, 3, []⟩,
     ⟨none, .store 1 (.t 24) (.t 23), none, 4, []⟩]))))
 (.seq
 (.seq
  (.region 0 ([⟨(some 25), .mov (.t 0), none, 0, []⟩,
      ⟨(some 26), .nilCheck (.t 25), none, 1, []⟩,
      ⟨(some 27), .faddr 2 (.t 26), none, 2, []⟩,
      ⟨(some 28), .load1 (.t 27), none, 3, []⟩,
      ⟨(some 29), .bin .neq (.t 28) (.c (.int .i64 0)), none, 4, []⟩]))
  (.cond (.t 29)
   (.seq
    (.region 0 ([⟨(some 30), .build [(.int .i64 0), (.int .i64 0), (.int .i64 0), (.int .i64 0), (.int .i64 0), (.bool false)] [], none, 0, []⟩,
        ⟨none, .store 6 (.t 2) (.t 30), none, 1, []⟩]))
    (.ret))
   (.skip)))
 (.seq
 (.many 0 ([⟨(some 32), .loadN 6 (.t 3), none, 0, []⟩] ++
    (⟨(some 33), .callF 38 [(.t 32)], none, 1, []⟩ ::
    ([⟨(some 31), .mov (.t 33), none, 2, []⟩,
     ⟨(some 34), .extract (.t 31) 0, none, 3, []⟩,
     ⟨(some 35), .extract (.t 31) 1, none, 4, []⟩,
     ⟨(some 4), .mov (.t 34), none, 5, []⟩,
     ⟨(some 5), .mov (.t 35), none, 6, []⟩]))))
 (.seq
 (.many 0 ([⟨(some 36), .mov (.t 0), none, 0, []⟩,
     ⟨(some 37), .mov (.t 5), none, 1, []⟩,
     ⟨(some 38), .bin .eql (.t 37) (.c (.int .i64 0)), none, 2, []⟩] ++
    (⟨(some 39), .callF 49 [(.t 36), (.t 38), (.c (.int .i64 3))], none, 3, []⟩ ::
    ([]))))
 (.seq
 (.region 0 ([⟨(some 40), .loadN 6 (.t 3), none, 0, []⟩,
     ⟨none, .store 6 (.t 2) (.t 40), none, 1, []⟩]))
 (.ret))))))))))))),
 [.cell 2 true 6]⟩
def _tithing_tithingref26_reader_sized : CFunc := ⟨21,
 (.seq
 (.region 0 ([⟨(some 4), .mov (.c (.slice none 0 0)), none, 0, []⟩]))
 (.seq
 (.many 0 ([⟨(some 6), .mov (.t 0), none, 0, []⟩] ++
    (⟨(some 7), .callF 48 [(.t 6), (.c (.int .i64 2))], none, 1, []⟩ ::
    ([⟨(some 5), .mov (.t 7), none, 2, []⟩]))))
 (.seq
 (.many 0 ([⟨(some 8), .mov (.t 0), none, 0, []⟩,
     ⟨(some 9), .mov (.t 5), none, 1, []⟩,
     ⟨(some 10), .mov (.t 1), none, 2, []⟩,
     ⟨(some 11), .bin .leq (.t 9) (.t 10), none, 3, []⟩] ++
    (⟨(some 12), .callF 49 [(.t 8), (.t 11), (.c (.int .i64 3))], none, 4, []⟩ ::
    ([]))))
 (.seq
 (.seq
  (.region 0 ([⟨(some 13), .mov (.t 0), none, 0, []⟩,
      ⟨(some 14), .nilCheck (.t 13), none, 1, []⟩,
      ⟨(some 15), .faddr 2 (.t 14), none, 2, []⟩,
      ⟨(some 16), .load1 (.t 15), none, 3, []⟩,
      ⟨(some 17), .bin .neq (.t 16) (.c (.int .i64 0)), none, 4, []⟩]))
  (.cond (.t 17)
   (.seq
    (.region 0 ([⟨(some 4), .mov (.c (.slice none 0 0)), none, 0, []⟩]))
    (.ret))
   (.skip)))
 (.seq
 (.many 0 ([⟨(some 18), .mov (.t 0), none, 0, []⟩,
     ⟨(some 19), .mov (.t 5), none, 1, []⟩] ++
    (⟨(some 20), .callF 86 [(.t 18), (.t 19)], none, 2, []⟩ ::
    ([⟨(some 4), .mov (.t 20), none, 3, []⟩]))))
 (.ret)))))),
 [.tmp 4]⟩
def _tithing_tithingref26_reader_end : CFunc := ⟨19,
 (.seq
 (.region 0 ([⟨(some 2), .mov (.c (.int .i64 0)), none, 0, []⟩]))
 (.seq
 (.region 0 ([⟨(some 3), .mov (.t 0), none, 0, []⟩,
     ⟨(some 4), .mov (.t 0), none, 1, []⟩,
     ⟨(some 5), .nilCheck (.t 4), none, 2, []⟩,
     ⟨(some 6), .faddr 1 (.t 5), none, 3, []⟩,
     ⟨(some 7), .load1 (.t 6), none, 4, []⟩,
     ⟨(some 8), .mov (.t 0), none, 5, []⟩,
     ⟨(some 9), .nilCheck (.t 8), none, 6, []⟩,
     ⟨(some 10), .faddr 0 (.t 9), none, 7, []⟩,
     ⟨(some 11), .load1 (.t 10), none, 8, []⟩,
     ⟨(some 12), .lenV (.t 11), none, 9, []⟩,
     ⟨(some 13), .bin .eql (.t 7) (.t 12), none, 10, []⟩] ++
    (⟨(some 14), .callF 49 [(.t 3), (.t 13), (.c (.int .i64 3))], none, 11, []⟩ ::
    ([]))))
 (.seq
 (.region 0 ([⟨(some 15), .mov (.t 0), none, 0, []⟩,
     ⟨(some 16), .nilCheck (.t 15), none, 1, []⟩,
     ⟨(some 17), .faddr 2 (.t 16), none, 2, []⟩,
     ⟨(some 18), .load1 (.t 17), none, 3, []⟩,
     ⟨(some 2), .mov (.t 18), none, 4, []⟩]))
 (.ret)))),
 [.tmp 2]⟩
def _tithing_client_reader_fixed : CFunc := ⟨18,
 (.seq
 (.region 0 ([⟨(some 4), .mov (.c (.int .i64 0)), none, 0, []⟩]))
 (.seq
 (.many 0 ([⟨(some 9), .mov (.t 0), none, 0, []⟩,
     ⟨(some 10), .mov (.t 1), none, 1, []⟩] ++
    (⟨(some 11), .callF 85 [(.t 9), (.t 10)], none, 2, []⟩ ::
    ([⟨(some 12), .mov (.t 1), none, 3, []⟩] ++
    (⟨(some 13), .callF 89 [(.t 11), (.c (.int .i64 0)), (.t 12)], none, 4, []⟩ ::
    ([⟨(some 8), .mov (.t 13), none, 5, []⟩,
     ⟨(some 14), .extract (.t 8) 0, none, 6, []⟩,
     ⟨(some 15), .extract (.t 8) 1, none, 7, []⟩,
     ⟨(some 16), .extract (.t 8) 2, none, 8, []⟩,
     ⟨(some 5), .mov (.t 14), none, 9, []⟩,
     ⟨(some 6), .mov (.t 15), none, 10, []⟩,
     ⟨(some 7), .mov (.t 16), none, 11, []⟩]))))))
 (.seq
 (.region 0 ([⟨(some 17), .mov (.t 5), none, 0, []⟩,
     ⟨(some 4), .mov (.t 17), none, 1, []⟩]))
 (.ret)))),
 [.tmp 4]⟩
def slices_Clone_byte_byte : CFunc := ⟨8,
 (.seq
 (.region 0 ([⟨(some 2), .mov (.c (.slice none 0 0)), none, 0, []⟩]))
 (.seq
 (.seq
  (.region 0 ([⟨(some 3), .mov (.t 0), none, 0, []⟩,
      ⟨(some 4), .eqNil false .sl (.t 3), none, 1, []⟩]))
  (.cond (.t 4)
   (.seq
    (.region 0 ([⟨(some 2), .mov (.c (.slice none 0 0)), none, 0, []⟩]))
    (.ret))
   (.skip)))
 (.seq
 (.region 4 ([⟨(some 5), .buildSlice 5 0 [] [], none, 0, []⟩,
     ⟨(some 6), .mov (.t 0), none, 1, []⟩,
     ⟨(some 7), .append 5 1 1 (.t 5) (.t 6), none, 2, []⟩,
     ⟨(some 2), .mov (.t 7), none, 3, []⟩]))
 (.ret)))),
 [.tmp 2]⟩
def rights_Valid : CFunc := ⟨26,
 (.seq
 (.region 2 ([⟨(some 1), .box 25 (.t 0), none, 0, []⟩,
     ⟨(some 2), .mov (.c (.bool false)), none, 1, []⟩]))
 (.seq
 (.many 0 ([⟨(some 3), .faddr 0 (.t 1), none, 0, []⟩,
     ⟨(some 4), .load1 (.t 3), none, 1, []⟩,
     ⟨(some 5), .bin .geq (.t 4) (.c (.int .i64 0)), none, 2, []⟩,
     ⟨(some 6), .mov (.t 5), none, 3, []⟩,
     ⟨(some 7), .faddr 1 (.t 1), (some ((some 6), true)), 4, []⟩,
     ⟨(some 8), .load1 (.t 7), (some ((some 6), true)), 5, []⟩,
     ⟨(some 9), .bin .geq (.t 8) (.c (.int .i64 0)), (some ((some 6), true)), 6, []⟩,
     ⟨(some 10), .pick (.t 6) (.t 9) (.c (.bool false)), none, 7, []⟩,
     ⟨(some 11), .mov (.t 10), none, 8, []⟩,
     ⟨(some 12), .faddr 2 (.t 1), (some ((some 11), true)), 9, []⟩,
     ⟨(some 13), .load1 (.t 12), (some ((some 11), true)), 10, []⟩] ++
    (⟨(some 14), .callF 115 [(.t 13), (.c (.int .i64 0)), (.c (.int .i64 7))], (some ((some 11), true)), 11, []⟩ ::
    ([⟨(some 15), .pick (.t 11) (.t 14) (.c (.bool false)), none, 12, []⟩,
     ⟨(some 16), .mov (.t 15), none, 13, []⟩,
     ⟨(some 17), .faddr 3 (.t 1), (some ((some 16), true)), 14, []⟩,
     ⟨(some 18), .load1 (.t 17), (some ((some 16), true)), 15, []⟩] ++
    (⟨(some 19), .callF 115 [(.t 18), (.c (.int .i64 0)), (.c (.int .i64 7))], (some ((some 16), true)), 16, []⟩ ::
    ([⟨(some 20), .pick (.t 16) (.t 19) (.c (.bool false)), none, 17, []⟩,
     ⟨(some 21), .mov (.t 20), none, 18, []⟩,
     ⟨(some 22), .faddr 4 (.t 1), (some ((some 21), true)), 19, []⟩,
     ⟨(some 23), .load1 (.t 22), (some ((some 21), true)), 20, []⟩] ++
    (⟨(some 24), .callF 115 [(.t 23), (.c (.int .i64 0)), (.c (.int .i64 7))], (some ((some 21), true)), 21, []⟩ ::
    ([⟨(some 25), .pick (.t 21) (.t 24) (.c (.bool false)), none, 22, []⟩,
     ⟨(some 2), .mov (.t 25), none, 23, []⟩]))))))))
 (.ret))),
 [.tmp 2]⟩
def tithingref21_Valid : CFunc := ⟨26,
 (.seq
 (.region 2 ([⟨(some 1), .box 25 (.t 0), none, 0, []⟩,
     ⟨(some 2), .mov (.c (.bool false)), none, 1, []⟩]))
 (.seq
 (.many 0 ([⟨(some 3), .faddr 0 (.t 1), none, 0, []⟩,
     ⟨(some 4), .load1 (.t 3), none, 1, []⟩,
     ⟨(some 5), .bin .geq (.t 4) (.c (.int .i64 0)), none, 2, []⟩,
     ⟨(some 6), .mov (.t 5), none, 3, []⟩,
     ⟨(some 7), .faddr 1 (.t 1), (some ((some 6), true)), 4, []⟩,
     ⟨(some 8), .load1 (.t 7), (some ((some 6), true)), 5, []⟩,
     ⟨(some 9), .bin .geq (.t 8) (.c (.int .i64 0)), (some ((some 6), true)), 6, []⟩,
     ⟨(some 10), .pick (.t 6) (.t 9) (.c (.bool false)), none, 7, []⟩,
     ⟨(some 11), .mov (.t 10), none, 8, []⟩,
     ⟨(some 12), .faddr 2 (.t 1), (some ((some 11), true)), 9, []⟩,
     ⟨(some 13), .load1 (.t 12), (some ((some 11), true)), 10, []⟩] ++
    (⟨(some 14), .callF 116 [(.t 13)], (some ((some 11), true)), 11, []⟩ ::
    ([⟨(some 15), .pick (.t 11) (.t 14) (.c (.bool false)), none, 12, []⟩,
     ⟨(some 16), .mov (.t 15), none, 13, []⟩,
     ⟨(some 17), .faddr 3 (.t 1), (some ((some 16), true)), 14, []⟩,
     ⟨(some 18), .load1 (.t 17), (some ((some 16), true)), 15, []⟩] ++
    (⟨(some 19), .callF 116 [(.t 18)], (some ((some 16), true)), 16, []⟩ ::
    ([⟨(some 20), .pick (.t 16) (.t 19) (.c (.bool false)), none, 17, []⟩,
     ⟨(some 21), .mov (.t 20), none, 18, []⟩,
     ⟨(some 22), .faddr 4 (.t 1), (some ((some 21), true)), 19, []⟩,
     ⟨(some 23), .load1 (.t 22), (some ((some 21), true)), 20, []⟩] ++
    (⟨(some 24), .callF 116 [(.t 23)], (some ((some 21), true)), 21, []⟩ ::
    ([⟨(some 25), .pick (.t 21) (.t 24) (.c (.bool false)), none, 22, []⟩,
     ⟨(some 2), .mov (.t 25), none, 23, []⟩]))))))))
 (.ret))),
 [.tmp 2]⟩
def tithingref25_four : CFunc := ⟨15,
 (.seq
 (.region 0 ([⟨(some 2), .mov (.c (.slice none 0 0)), none, 0, []⟩]))
 (.seq
 (.region 13 ([⟨(some 3), .mov (.t 0), none, 0, []⟩,
     ⟨(some 4), .bin .shr (.t 3) (.c (.int .u64 24)), none, 1, []⟩,
     ⟨(some 5), .convI .u8 (.t 4), none, 2, []⟩,
     ⟨(some 6), .mov (.t 0), none, 3, []⟩,
     ⟨(some 7), .bin .shr (.t 6) (.c (.int .u64 16)), none, 4, []⟩,
     ⟨(some 8), .convI .u8 (.t 7), none, 5, []⟩,
     ⟨(some 9), .mov (.t 0), none, 6, []⟩,
     ⟨(some 10), .bin .shr (.t 9) (.c (.int .u64 8)), none, 7, []⟩,
     ⟨(some 11), .convI .u8 (.t 10), none, 8, []⟩,
     ⟨(some 12), .mov (.t 0), none, 9, []⟩,
     ⟨(some 13), .convI .u8 (.t 12), none, 10, []⟩,
     ⟨(some 14), .buildSlice 5 4 [(.int .u8 0), (.int .u8 0), (.int .u8 0), (.int .u8 0)] [(0, 1, (.t 5)), (1, 1, (.t 8)), (2, 1, (.t 11)), (3, 1, (.t 13))], none, 11, []⟩,
     ⟨(some 2), .mov (.t 14), none, 12, []⟩]))
 (.ret))),
 [.tmp 2]⟩
def _tithing_client_reader_fail : CFunc := ⟨10,
 (.seq
 (.region 0 ([⟨(some 2), .mov (.t 0), none, 0, []⟩,
     ⟨(some 3), .nilCheck (.t 2), none, 1, []⟩,
     ⟨(some 4), .faddr 2 (.t 3), none, 2, []⟩,
     ⟨(some 5), .load1 (.t 4), none, 3, []⟩,
     ⟨(some 6), .bin .eql (.t 5) (.c (.int .i64 0)), none, 4, []⟩]))
 (.cond (.t 6)
  (.region 0 ([⟨(some 7), .mov (.t 0), none, 0, []⟩,
      ⟨(some 8), .nilCheck (.t 7), none, 1, []⟩,
      ⟨(some 9), .faddr 2 (.t 8), none, 2, []⟩,
      ⟨none, .store 1 (.t 9) (.c (.int .i64 3)), none, 3, []⟩]))
  (.skip))),
 []⟩
def _tithing_client_reader_take : CFunc := ⟨57,
 (.seq
 (.region 0 ([⟨(some 4), .mov (.c (.slice none 0 0)), none, 0, []⟩]))
 (.seq
 (.seq
  (.region 0 ([⟨(some 5), .mov (.t 0), none, 0, []⟩,
      ⟨(some 6), .nilCheck (.t 5), none, 1, []⟩,
      ⟨(some 7), .faddr 2 (.t 6), none, 2, []⟩,
      ⟨(some 8), .load1 (.t 7), none, 3, []⟩,
      ⟨(some 9), .bin .eql (.t 8) (.c (.int .i64 0)), none, 4, []⟩,
      ⟨(some 10), .mov (.t 9), none, 5, []⟩,
      ⟨(some 11), .mov (.t 1), (some ((some 10), true)), 6, []⟩,
      ⟨(some 12), .mov (.t 0), (some ((some 10), true)), 7, []⟩,
      ⟨(some 13), .nilCheck (.t 12), (some ((some 10), true)), 8, []⟩,
      ⟨(some 14), .faddr 0 (.t 13), (some ((some 10), true)), 9, []⟩,
      ⟨(some 15), .load1 (.t 14), (some ((some 10), true)), 10, []⟩,
      ⟨(some 16), .lenV (.t 15), (some ((some 10), true)), 11, []⟩,
      ⟨(some 17), .mov (.t 0), (some ((some 10), true)), 12, []⟩,
      ⟨(some 18), .nilCheck (.t 17), (some ((some 10), true)), 13, []⟩,
      ⟨(some 19), .faddr 1 (.t 18), (some ((some 10), true)), 14, []⟩,
      ⟨(some 20), .load1 (.t 19), (some ((some 10), true)), 15, []⟩,
      ⟨(some 21), .bin .sub (.t 16) (.t 20), (some ((some 10), true)), 16, []⟩,
      ⟨(some 22), .bin .gtr (.t 11) (.t 21), (some ((some 10), true)), 17, []⟩,
      ⟨(some 23), .pick (.t 10) (.t 22) (.c (.bool false)), none, 18, []⟩]))
  (.cond (.t 23)
   (.region 0 ([⟨(some 24), .mov (.t 0), none, 0, []⟩,
       ⟨(some 25), .nilCheck (.t 24), none, 1, []⟩,
       ⟨(some 26), .faddr 2 (.t 25), none, 2, []⟩,
       ⟨none, .store 1 (.t 26) (.c (.int .i64 6)), none, 3, []⟩]))
   (.skip)))
 (.seq
 (.seq
  (.region 0 ([⟨(some 27), .mov (.t 0), none, 0, []⟩,
      ⟨(some 28), .nilCheck (.t 27), none, 1, []⟩,
      ⟨(some 29), .faddr 2 (.t 28), none, 2, []⟩,
      ⟨(some 30), .load1 (.t 29), none, 3, []⟩,
      ⟨(some 31), .bin .neq (.t 30) (.c (.int .i64 0)), none, 4, []⟩]))
  (.cond (.t 31)
   (.seq
    (.region 3 ([⟨(some 32), .mov (.t 1), none, 0, []⟩,
        ⟨(some 33), .mkSlice 5 1 [(.int .u8 0)] (.t 32) (.t 32), none, 1, []⟩,
        ⟨(some 4), .mov (.t 33), none, 2, []⟩]))
    (.ret))
   (.skip)))
 (.seq
 (.region 0 ([⟨(some 34), .mov (.t 0), none, 0, []⟩,
     ⟨(some 35), .nilCheck (.t 34), none, 1, []⟩,
     ⟨(some 36), .faddr 1 (.t 35), none, 2, []⟩,
     ⟨(some 37), .load1 (.t 36), none, 3, []⟩,
     ⟨(some 38), .mov (.t 1), none, 4, []⟩,
     ⟨(some 39), .bin .add (.t 37) (.t 38), none, 5, []⟩,
     ⟨(some 40), .nilCheck (.t 34), none, 6, []⟩,
     ⟨(some 41), .faddr 1 (.t 40), none, 7, []⟩,
     ⟨none, .store 1 (.t 41) (.t 39), none, 8, []⟩]))
 (.seq
 (.region 0 ([⟨(some 42), .mov (.t 0), none, 0, []⟩,
     ⟨(some 43), .nilCheck (.t 42), none, 1, []⟩,
     ⟨(some 44), .faddr 0 (.t 43), none, 2, []⟩,
     ⟨(some 45), .load1 (.t 44), none, 3, []⟩,
     ⟨(some 46), .mov (.t 0), none, 4, []⟩,
     ⟨(some 47), .nilCheck (.t 46), none, 5, []⟩,
     ⟨(some 48), .faddr 1 (.t 47), none, 6, []⟩,
     ⟨(some 49), .load1 (.t 48), none, 7, []⟩,
     ⟨(some 50), .mov (.t 1), none, 8, []⟩,
     ⟨(some 51), .bin .sub (.t 49) (.t 50), none, 9, []⟩,
     ⟨(some 52), .mov (.t 0), none, 10, []⟩,
     ⟨(some 53), .nilCheck (.t 52), none, 11, []⟩,
     ⟨(some 54), .faddr 1 (.t 53), none, 12, []⟩,
     ⟨(some 55), .load1 (.t 54), none, 13, []⟩,
     ⟨(some 56), .sliceV 1 (.t 45) (some (.t 51)) (some (.t 55)) none, none, 14, []⟩,
     ⟨(some 4), .mov (.t 56), none, 15, []⟩]))
 (.ret)))))),
 [.tmp 4]⟩
def _tithing_tithingref26_reader_bytes : CFunc := ⟨51,
 (.seq
 (.region 0 ([⟨(some 4), .mov (.c (.slice none 0 0)), none, 0, []⟩]))
 (.seq
 (.region 0 ([⟨(some 5), .mov (.t 0), none, 0, []⟩,
     ⟨(some 6), .mov (.t 1), none, 1, []⟩,
     ⟨(some 7), .mov (.t 0), none, 2, []⟩,
     ⟨(some 8), .nilCheck (.t 7), none, 3, []⟩,
     ⟨(some 9), .faddr 0 (.t 8), none, 4, []⟩,
     ⟨(some 10), .load1 (.t 9), none, 5, []⟩,
     ⟨(some 11), .lenV (.t 10), none, 6, []⟩,
     ⟨(some 12), .mov (.t 0), none, 7, []⟩,
     ⟨(some 13), .nilCheck (.t 12), none, 8, []⟩,
     ⟨(some 14), .faddr 1 (.t 13), none, 9, []⟩,
     ⟨(some 15), .load1 (.t 14), none, 10, []⟩,
     ⟨(some 16), .bin .sub (.t 11) (.t 15), none, 11, []⟩,
     ⟨(some 17), .bin .leq (.t 6) (.t 16), none, 12, []⟩] ++
    (⟨(some 18), .callF 49 [(.t 5), (.t 17), (.c (.int .i64 6))], none, 13, []⟩ ::
    ([]))))
 (.seq
 (.seq
  (.region 0 ([⟨(some 19), .mov (.t 0), none, 0, []⟩,
      ⟨(some 20), .nilCheck (.t 19), none, 1, []⟩,
      ⟨(some 21), .faddr 2 (.t 20), none, 2, []⟩,
      ⟨(some 22), .load1 (.t 21), none, 3, []⟩,
      ⟨(some 23), .bin .neq (.t 22) (.c (.int .i64 0)), none, 4, []⟩]))
  (.cond (.t 23)
   (.seq
    (.region 3 ([⟨(some 24), .mov (.t 1), none, 0, []⟩,
        ⟨(some 25), .mkSlice 5 1 [(.int .u8 0)] (.t 24) (.t 24), none, 1, []⟩,
        ⟨(some 4), .mov (.t 25), none, 2, []⟩]))
    (.ret))
   (.skip)))
 (.seq
 (.region 0 ([⟨(some 26), .mov (.t 0), none, 0, []⟩,
     ⟨(some 27), .nilCheck (.t 26), none, 1, []⟩,
     ⟨(some 28), .faddr 1 (.t 27), none, 2, []⟩,
     ⟨(some 29), .load1 (.t 28), none, 3, []⟩,
     ⟨(some 30), .mov (.t 1), none, 4, []⟩,
     ⟨(some 31), .bin .add (.t 29) (.t 30), none, 5, []⟩,
     ⟨(some 32), .nilCheck (.t 26), none, 6, []⟩,
     ⟨(some 33), .faddr 1 (.t 32), none, 7, []⟩,
     ⟨none, .store 1 (.t 33) (.t 31), none, 8, []⟩]))
 (.seq
 (.region 18 ([⟨(some 35), .mov (.t 0), none, 1, []⟩,
     ⟨(some 36), .nilCheck (.t 35), none, 2, []⟩,
     ⟨(some 37), .faddr 0 (.t 36), none, 3, []⟩,
     ⟨(some 38), .load1 (.t 37), none, 4, []⟩,
     ⟨(some 39), .mov (.t 0), none, 5, []⟩,
     ⟨(some 40), .nilCheck (.t 39), none, 6, []⟩,
     ⟨(some 41), .faddr 1 (.t 40), none, 7, []⟩,
     ⟨(some 42), .load1 (.t 41), none, 8, []⟩,
     ⟨(some 43), .mov (.t 1), none, 9, []⟩,
     ⟨(some 44), .bin .sub (.t 42) (.t 43), none, 10, []⟩,
     ⟨(some 45), .mov (.t 0), none, 11, []⟩,
     ⟨(some 46), .nilCheck (.t 45), none, 12, []⟩,
     ⟨(some 47), .faddr 1 (.t 46), none, 13, []⟩,
     ⟨(some 48), .load1 (.t 47), none, 14, []⟩,
     ⟨(some 49), .sliceV 1 (.t 38) (some (.t 44)) (some (.t 48)) none, none, 15, []⟩,
     ⟨(some 34), .buildSlice 5 0 [] [], none, 0, []⟩,
     ⟨(some 50), .append 5 1 1 (.t 34) (.t 49), none, 16, []⟩,
     ⟨(some 4), .mov (.t 50), none, 17, []⟩]))
 (.ret)))))),
 [.tmp 4]⟩
def _tithing_tithingref26_reader_most : CFunc := ⟨14,
 (.seq
 (.region 0 ([⟨(some 4), .mov (.c (.int .i64 0)), none, 0, []⟩]))
 (.seq
 (.many 0 ([⟨(some 6), .mov (.t 0), none, 0, []⟩] ++
    (⟨(some 7), .callF 48 [(.t 6), (.c (.int .i64 1))], none, 1, []⟩ ::
    ([⟨(some 5), .mov (.t 7), none, 2, []⟩]))))
 (.seq
 (.many 0 ([⟨(some 8), .mov (.t 0), none, 0, []⟩,
     ⟨(some 9), .mov (.t 5), none, 1, []⟩,
     ⟨(some 10), .mov (.t 1), none, 2, []⟩,
     ⟨(some 11), .bin .leq (.t 9) (.t 10), none, 3, []⟩] ++
    (⟨(some 12), .callF 49 [(.t 8), (.t 11), (.c (.int .i64 3))], none, 4, []⟩ ::
    ([]))))
 (.seq
 (.region 0 ([⟨(some 13), .mov (.t 5), none, 0, []⟩,
     ⟨(some 4), .mov (.t 13), none, 1, []⟩]))
 (.ret))))),
 [.tmp 4]⟩
def octet_isWidth : CFunc := ⟨13,
 (.seq
 (.region 0 ([⟨(some 2), .mov (.c (.bool false)), none, 0, []⟩]))
 (.seq
 (.region 0 ([⟨(some 3), .mov (.t 0), none, 0, []⟩,
     ⟨(some 4), .bin .eql (.t 3) (.c (.int .i64 1)), none, 1, []⟩,
     ⟨(some 5), .mov (.t 4), none, 2, []⟩,
     ⟨(some 6), .mov (.t 0), (some ((some 5), false)), 3, []⟩,
     ⟨(some 7), .bin .eql (.t 6) (.c (.int .i64 2)), (some ((some 5), false)), 4, []⟩,
     ⟨(some 8), .pick (.t 5) (.c (.bool true)) (.t 7), none, 5, []⟩,
     ⟨(some 9), .mov (.t 8), none, 6, []⟩,
     ⟨(some 10), .mov (.t 0), (some ((some 9), false)), 7, []⟩,
     ⟨(some 11), .bin .eql (.t 10) (.c (.int .i64 4)), (some ((some 9), false)), 8, []⟩,
     ⟨(some 12), .pick (.t 9) (.c (.bool true)) (.t 11), none, 9, []⟩,
     ⟨(some 2), .mov (.t 12), none, 10, []⟩]))
 (.ret))),
 [.tmp 2]⟩
def octet_Get_l0 : CCode :=
 (.seq
 (.region 0 ([⟨(some 40), .bin .lss (.t 39) (.t 38), none, 0, []⟩]))
 (.seq
 (.cond (.t 40)
   (.skip)
   (.exit 1))
 (.seq
 (.block 2
   (.seq
    (.region 0 ([⟨(some 41), .iaddrV 1 (.t 37) (.t 39), none, 0, []⟩,
        ⟨(some 42), .load1 (.t 41), none, 1, []⟩,
        ⟨(some 10), .mov (.t 42), none, 2, []⟩]))
    (.region 0 ([⟨(some 43), .mov (.t 6), none, 0, []⟩,
       ⟨(some 44), .bin .shl (.t 43) (.c (.int .u64 8)), none, 1, []⟩,
       ⟨(some 45), .mov (.t 10), none, 2, []⟩,
       ⟨(some 46), .convI .i64 (.t 45), none, 3, []⟩,
       ⟨(some 47), .bin .or (.t 44) (.t 46), none, 4, []⟩,
       ⟨(some 6), .mov (.t 47), none, 5, []⟩]))))
 (.region 0 ([⟨(some 48), .bin .add (.t 39) (.c (.int .i64 1)), none, 0, []⟩,
    ⟨(some 39), .mov (.t 48), none, 1, []⟩])))))
def octet_Get : CFunc := ⟨53,
 (.seq
 (.region 0 ([⟨(some 6), .mov (.c (.int .i64 0)), none, 0, []⟩,
     ⟨(some 7), .mov (.c (.int .i64 0)), none, 1, []⟩,
     ⟨(some 8), .mov (.c (.int .i64 0)), none, 2, []⟩]))
 (.seq
 (.block 0
   (.seq
    (.many 0 ([⟨(some 12), .mov (.t 2), none, 0, []⟩] ++
       (⟨(some 13), .callF 88 [(.t 12)], none, 1, []⟩ ::
       ([⟨(some 14), .un .not (.t 13), none, 2, []⟩,
        ⟨(some 15), .mov (.t 14), none, 3, []⟩,
        ⟨(some 16), .mov (.t 1), (some ((some 15), false)), 4, []⟩,
        ⟨(some 17), .bin .lss (.t 16) (.c (.int .i64 0)), (some ((some 15), false)), 5, []⟩,
        ⟨(some 18), .pick (.t 15) (.c (.bool true)) (.t 17), none, 6, []⟩,
        ⟨(some 19), .mov (.t 18), none, 7, []⟩,
        ⟨(some 20), .mov (.t 1), (some ((some 19), false)), 8, []⟩,
        ⟨(some 21), .mov (.t 0), (some ((some 19), false)), 9, []⟩,
        ⟨(some 22), .lenV (.t 21), (some ((some 19), false)), 10, []⟩,
        ⟨(some 23), .bin .gtr (.t 20) (.t 22), (some ((some 19), false)), 11, []⟩,
        ⟨(some 24), .pick (.t 19) (.c (.bool true)) (.t 23), none, 12, []⟩,
        ⟨(some 11), .mov (.t 24), none, 13, []⟩]))))
    (.cond (.t 11)
     (.seq
      (.region 0 ([⟨(some 6), .mov (.c (.int .i64 0)), none, 0, []⟩,
          ⟨(some 7), .mov (.c (.int .i64 0)), none, 1, []⟩,
          ⟨(some 8), .mov (.c (.int .i64 2)), none, 2, []⟩]))
      (.ret))
     (.seq
      (.region 0 ([⟨(some 26), .mov (.t 0), none, 0, []⟩,
          ⟨(some 27), .lenV (.t 26), none, 1, []⟩,
          ⟨(some 28), .mov (.t 1), none, 2, []⟩,
          ⟨(some 29), .bin .sub (.t 27) (.t 28), none, 3, []⟩,
          ⟨(some 30), .mov (.t 2), none, 4, []⟩,
          ⟨(some 31), .bin .lss (.t 29) (.t 30), none, 5, []⟩,
          ⟨(some 25), .mov (.t 31), none, 6, []⟩]))
      (.cond (.t 25)
       (.seq
        (.region 0 ([⟨(some 6), .mov (.c (.int .i64 0)), none, 0, []⟩,
            ⟨(some 7), .mov (.c (.int .i64 0)), none, 1, []⟩,
            ⟨(some 8), .mov (.c (.int .i64 6)), none, 2, []⟩]))
        (.ret))
       (.skip))))))
 (.seq
 (.seq
  (.region 0 ([⟨(some 32), .mov (.t 0), none, 0, []⟩,
      ⟨(some 33), .mov (.t 1), none, 1, []⟩,
      ⟨(some 34), .mov (.t 1), none, 2, []⟩,
      ⟨(some 35), .mov (.t 2), none, 3, []⟩,
      ⟨(some 36), .bin .add (.t 34) (.t 35), none, 4, []⟩,
      ⟨(some 37), .sliceV 1 (.t 32) (some (.t 33)) (some (.t 36)) none, none, 5, []⟩,
      ⟨(some 38), .lenV (.t 37), none, 6, []⟩,
      ⟨(some 39), .mov (.c (.int .i64 0)), none, 7, []⟩]))
  (.block 1
   (.loop octet_Get_l0)))
 (.seq
 (.region 0 ([⟨(some 49), .mov (.t 6), none, 0, []⟩,
     ⟨(some 50), .mov (.t 1), none, 1, []⟩,
     ⟨(some 51), .mov (.t 2), none, 2, []⟩,
     ⟨(some 52), .bin .add (.t 50) (.t 51), none, 3, []⟩,
     ⟨(some 6), .mov (.t 49), none, 4, []⟩,
     ⟨(some 7), .mov (.t 52), none, 5, []⟩,
     ⟨(some 8), .mov (.c (.int .i64 0)), none, 6, []⟩]))
 (.ret))))),
 [.tmp 6, .tmp 7, .tmp 8]⟩
def rights_within : CFunc := ⟨15,
 (.seq
 (.region 0 ([⟨(some 6), .mov (.c (.bool false)), none, 0, []⟩]))
 (.seq
 (.region 0 ([⟨(some 7), .mov (.t 0), none, 0, []⟩,
     ⟨(some 8), .mov (.t 1), none, 1, []⟩,
     ⟨(some 9), .bin .geq (.t 7) (.t 8), none, 2, []⟩,
     ⟨(some 10), .mov (.t 9), none, 3, []⟩,
     ⟨(some 11), .mov (.t 0), (some ((some 10), true)), 4, []⟩,
     ⟨(some 12), .mov (.t 2), (some ((some 10), true)), 5, []⟩,
     ⟨(some 13), .bin .leq (.t 11) (.t 12), (some ((some 10), true)), 6, []⟩,
     ⟨(some 14), .pick (.t 10) (.t 13) (.c (.bool false)), none, 7, []⟩,
     ⟨(some 6), .mov (.t 14), none, 8, []⟩]))
 (.ret))),
 [.tmp 6]⟩
def tithingref21_bits : CFunc := ⟨9,
 (.seq
 (.region 0 ([⟨(some 2), .mov (.c (.bool false)), none, 0, []⟩]))
 (.seq
 (.region 0 ([⟨(some 3), .mov (.t 0), none, 0, []⟩,
     ⟨(some 4), .bin .geq (.t 3) (.c (.int .i64 0)), none, 1, []⟩,
     ⟨(some 5), .mov (.t 4), none, 2, []⟩,
     ⟨(some 6), .mov (.t 0), (some ((some 5), true)), 3, []⟩,
     ⟨(some 7), .bin .leq (.t 6) (.c (.int .i64 7)), (some ((some 5), true)), 4, []⟩,
     ⟨(some 8), .pick (.t 5) (.t 7) (.c (.bool false)), none, 5, []⟩,
     ⟨(some 2), .mov (.t 8), none, 6, []⟩]))
 (.ret))),
 [.tmp 2]⟩
end Code
structure Codes (E : Env) : Prop where
  tithinglaw26_ClientGets : Has E 4 Code.tithinglaw26_ClientGets
  client_GetCall : Has E 12 Code.client_GetCall
  tithingref26_GetCall : Has E 13 Code.tithingref26_GetCall
  tithingref26_SameCalls : Has E 14 Code.tithingref26_SameCalls
  tithingref25_PutRights : Has E 38 Code.tithingref25_PutRights
  _tithing_client_reader_text : Has E 40 Code._tithing_client_reader_text
  _tithing_client_reader_number : Has E 41 Code._tithing_client_reader_number
  _tithing_client_reader_most : Has E 42 Code._tithing_client_reader_most
  _tithing_client_reader_rights : Has E 43 Code._tithing_client_reader_rights
  _tithing_client_reader_long : Has E 44 Code._tithing_client_reader_long
  _tithing_client_reader_end : Has E 45 Code._tithing_client_reader_end
  _tithing_tithingref26_reader_text : Has E 46 Code._tithing_tithingref26_reader_text
  _tithing_tithingref26_reader_four : Has E 47 Code._tithing_tithingref26_reader_four
  _tithing_tithingref26_reader_number : Has E 48 Code._tithing_tithingref26_reader_number
  _tithing_tithingref26_reader_check : Has E 49 Code._tithing_tithingref26_reader_check
  _tithing_tithingref26_reader_rights : Has E 50 Code._tithing_tithingref26_reader_rights
  _tithing_tithingref26_reader_sized : Has E 51 Code._tithing_tithingref26_reader_sized
  _tithing_tithingref26_reader_end : Has E 52 Code._tithing_tithingref26_reader_end
  _tithing_client_reader_fixed : Has E 55 Code._tithing_client_reader_fixed
  slices_Clone_byte_byte : Has E 76 Code.slices_Clone_byte_byte
  rights_Valid : Has E 78 Code.rights_Valid
  tithingref21_Valid : Has E 82 Code.tithingref21_Valid
  tithingref25_four : Has E 83 Code.tithingref25_four
  _tithing_client_reader_fail : Has E 84 Code._tithing_client_reader_fail
  _tithing_client_reader_take : Has E 85 Code._tithing_client_reader_take
  _tithing_tithingref26_reader_bytes : Has E 86 Code._tithing_tithingref26_reader_bytes
  _tithing_tithingref26_reader_most : Has E 87 Code._tithing_tithingref26_reader_most
  octet_isWidth : Has E 88 Code.octet_isWidth
  octet_Get : Has E 89 Code.octet_Get
  rights_within : Has E 115 Code.rights_within
  tithingref21_bits : Has E 116 Code.tithingref21_bits
end Go.Ev
