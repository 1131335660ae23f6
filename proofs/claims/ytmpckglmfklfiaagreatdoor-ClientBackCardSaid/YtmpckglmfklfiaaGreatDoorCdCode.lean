/-
 The code of functions as the machine has it, by name; their numbers.
-/
import Derived.Test.YtmpckglmfklfiaaGreatDoorEvPart3
set_option linter.unusedVariables false
namespace Go.Ev
namespace Code
def tithinglaw26_ClientBack : CFunc := ⟨118,
 (.seq
 (.region 3 ([⟨some 3, .box 28 (.t 0), none, 0, []⟩,
 ⟨some 4, .box 40 (.t 1), none, 1, []⟩,
 ⟨some 6, .mov (.c (.bool false)), none, 2, []⟩]))
 (.seq
 (.seq
 (.many 0 ([⟨some 23, .loadN 19 (.t 3), none, 0, []⟩] ++
 (⟨some 24, .callF 8 [(.t 23)], none, 1, []⟩ ::
 ([⟨some 25, .mov (.t 24), none, 2, []⟩,
 ⟨some 26, .loadN 5 (.t 4), some (some 25, false), 3, []⟩] ++
 (⟨some 27, .callF 15 [(.t 26)], some (some 25, false), 4, []⟩ ::
 ([⟨some 28, .pick (.t 25) (.c (.bool true)) (.t 27), none, 5, []⟩,
 ⟨some 29, .mov (.t 28), none, 6, []⟩,
 ⟨some 30, .mov (.t 2), some (some 29, false), 7, []⟩,
 ⟨some 31, .lenV (.t 30), some (some 29, false), 8, []⟩,
 ⟨some 32, .bin .gtr (.t 31) (.c (.int .i64 2000)), some (some 29, false), 9, []⟩,
 ⟨some 33, .pick (.t 29) (.c (.bool true)) (.t 32), none, 10, []⟩]))))))
 (.cond (.t 33)
 (.seq
 (.many 0 (⟨some 34, .callF 9 [], none, 0, []⟩ ::
 ([⟨some 6, .mov (.t 34), none, 1, []⟩])))
 (.ret))
 (.skip)))
 (.seq
 (.seq
 (.many 0 ([⟨some 36, .loadN 19 (.t 3), none, 0, []⟩] ++
 (⟨some 37, .callF 10 [(.t 36)], none, 1, []⟩ ::
 ([⟨some 35, .mov (.t 37), none, 2, []⟩,
 ⟨some 38, .extract (.t 35) 0, none, 3, []⟩,
 ⟨some 39, .extract (.t 35) 1, none, 4, []⟩,
 ⟨some 7, .mov (.t 38), none, 5, []⟩,
 ⟨some 8, .mov (.t 39), none, 6, []⟩]))))
 (.seq
 (.region 0 ([⟨some 40, .mov (.t 8), none, 0, []⟩,
 ⟨some 41, .bin .eql (.t 40) (.c (.int .i64 0)), none, 1, []⟩]))
 (.cond (.t 41)
 (.seq
 (.many 8 ([⟨some 43, .mov (.t 7), none, 0, []⟩] ++
 (⟨some 44, .callF 12 [(.t 43)], none, 1, []⟩ ::
 ([⟨some 42, .mov (.t 44), none, 2, []⟩,
 ⟨some 45, .extract (.t 42) 0, none, 3, []⟩,
 ⟨some 46, .extract (.t 42) 1, none, 4, []⟩,
 ⟨some 9, .alloc 28 [(.string ⟨⟨[]⟩⟩), (.int .i64 0), (.int .i64 0), (.string ⟨⟨[]⟩⟩), (.string ⟨⟨[]⟩⟩), (.int .i64 0), (.int .i64 0), (.int .i64 0), (.bool false), (.bool false), (.bool false), (.bool false), (.int .i64 0), (.int .i64 0), (.int .i64 0), (.int .i64 0), (.int .i64 0), (.bool false), (.slice none 0 0)], none, 5, []⟩,
 ⟨none, .store 19 (.t 9) (.t 45), none, 6, []⟩,
 ⟨some 10, .mov (.t 46), none, 7, []⟩]))))
 (.seq
 (.many 0 ([⟨some 47, .mov (.t 10), none, 0, []⟩,
 ⟨some 48, .bin .neq (.t 47) (.c (.int .i64 0)), none, 1, []⟩,
 ⟨some 49, .mov (.t 48), none, 2, []⟩,
 ⟨some 50, .loadN 19 (.t 9), some (some 49, false), 3, []⟩,
 ⟨some 51, .loadN 19 (.t 3), some (some 49, false), 4, []⟩] ++
 (⟨some 52, .callF 14 [(.t 50), (.t 51)], some (some 49, false), 5, []⟩ ::
 ([⟨some 53, .un .not (.t 52), some (some 49, false), 6, []⟩,
 ⟨some 54, .pick (.t 49) (.c (.bool true)) (.t 53), none, 7, []⟩]))))
 (.cond (.t 54)
 (.seq
 (.region 0 ([⟨some 6, .mov (.c (.bool false)), none, 0, []⟩]))
 (.ret))
 (.skip))))
 (.skip))))
 (.seq
 (.seq
 (.many 0 ([⟨some 56, .loadN 5 (.t 4), none, 0, []⟩] ++
 (⟨some 57, .callF 16 [(.t 56)], none, 1, []⟩ ::
 ([⟨some 55, .mov (.t 57), none, 2, []⟩,
 ⟨some 58, .extract (.t 55) 0, none, 3, []⟩,
 ⟨some 59, .extract (.t 55) 1, none, 4, []⟩,
 ⟨some 11, .mov (.t 58), none, 5, []⟩,
 ⟨some 12, .mov (.t 59), none, 6, []⟩]))))
 (.seq
 (.region 0 ([⟨some 60, .mov (.t 12), none, 0, []⟩,
 ⟨some 61, .bin .eql (.t 60) (.c (.int .i64 0)), none, 1, []⟩]))
 (.cond (.t 61)
 (.seq
 (.many 8 ([⟨some 63, .mov (.t 11), none, 0, []⟩] ++
 (⟨some 64, .callF 18 [(.t 63)], none, 1, []⟩ ::
 ([⟨some 62, .mov (.t 64), none, 2, []⟩,
 ⟨some 65, .extract (.t 62) 0, none, 3, []⟩,
 ⟨some 66, .extract (.t 62) 1, none, 4, []⟩,
 ⟨some 13, .alloc 40 [(.int .i64 0), (.int .i64 0), (.string ⟨⟨[]⟩⟩), (.slice none 0 0), (.slice none 0 0)], none, 5, []⟩,
 ⟨none, .store 5 (.t 13) (.t 65), none, 6, []⟩,
 ⟨some 14, .mov (.t 66), none, 7, []⟩]))))
 (.seq
 (.many 0 ([⟨some 67, .mov (.t 14), none, 0, []⟩,
 ⟨some 68, .bin .neq (.t 67) (.c (.int .i64 0)), none, 1, []⟩,
 ⟨some 69, .mov (.t 68), none, 2, []⟩,
 ⟨some 70, .loadN 5 (.t 13), some (some 69, false), 3, []⟩,
 ⟨some 71, .loadN 5 (.t 4), some (some 69, false), 4, []⟩] ++
 (⟨some 72, .callF 20 [(.t 70), (.t 71)], some (some 69, false), 5, []⟩ ::
 ([⟨some 73, .un .not (.t 72), some (some 69, false), 6, []⟩,
 ⟨some 74, .pick (.t 69) (.c (.bool true)) (.t 73), none, 7, []⟩]))))
 (.cond (.t 74)
 (.seq
 (.region 0 ([⟨some 6, .mov (.c (.bool false)), none, 0, []⟩]))
 (.ret))
 (.skip))))
 (.skip))))
 (.seq
 (.seq
 (.many 8 ([⟨some 76, .mov (.t 2), none, 0, []⟩] ++
 (⟨some 77, .callF 12 [(.t 76)], none, 1, []⟩ ::
 ([⟨some 75, .mov (.t 77), none, 2, []⟩,
 ⟨some 78, .extract (.t 75) 0, none, 3, []⟩,
 ⟨some 79, .extract (.t 75) 1, none, 4, []⟩,
 ⟨some 15, .alloc 28 [(.string ⟨⟨[]⟩⟩), (.int .i64 0), (.int .i64 0), (.string ⟨⟨[]⟩⟩), (.string ⟨⟨[]⟩⟩), (.int .i64 0), (.int .i64 0), (.int .i64 0), (.bool false), (.bool false), (.bool false), (.bool false), (.int .i64 0), (.int .i64 0), (.int .i64 0), (.int .i64 0), (.int .i64 0), (.bool false), (.slice none 0 0)], none, 5, []⟩,
 ⟨none, .store 19 (.t 15) (.t 78), none, 6, []⟩,
 ⟨some 16, .mov (.t 79), none, 7, []⟩]))))
 (.seq
 (.region 0 ([⟨some 80, .mov (.t 16), none, 0, []⟩,
 ⟨some 81, .bin .eql (.t 80) (.c (.int .i64 0)), none, 1, []⟩]))
 (.cond (.t 81)
 (.seq
 (.many 0 ([⟨some 83, .loadN 19 (.t 15), none, 0, []⟩] ++
 (⟨some 84, .callF 10 [(.t 83)], none, 1, []⟩ ::
 ([⟨some 82, .mov (.t 84), none, 2, []⟩,
 ⟨some 85, .extract (.t 82) 0, none, 3, []⟩,
 ⟨some 86, .extract (.t 82) 1, none, 4, []⟩,
 ⟨some 17, .mov (.t 85), none, 5, []⟩,
 ⟨some 18, .mov (.t 86), none, 6, []⟩]))))
 (.seq
 (.region 0 ([⟨some 87, .mov (.t 18), none, 0, []⟩,
 ⟨some 88, .bin .neq (.t 87) (.c (.int .i64 0)), none, 1, []⟩,
 ⟨some 89, .mov (.t 88), none, 2, []⟩,
 ⟨some 90, .mov (.t 17), some (some 89, false), 3, []⟩,
 ⟨some 91, .convBS (.t 90), some (some 89, false), 4, []⟩,
 ⟨some 92, .mov (.t 2), some (some 89, false), 5, []⟩,
 ⟨some 93, .convBS (.t 92), some (some 89, false), 6, []⟩,
 ⟨some 94, .bin .neq (.t 91) (.t 93), some (some 89, false), 7, []⟩,
 ⟨some 95, .pick (.t 89) (.c (.bool true)) (.t 94), none, 8, []⟩]))
 (.cond (.t 95)
 (.seq
 (.region 0 ([⟨some 6, .mov (.c (.bool false)), none, 0, []⟩]))
 (.ret))
 (.skip))))
 (.skip))))
 (.seq
 (.seq
 (.many 8 ([⟨some 97, .mov (.t 2), none, 0, []⟩] ++
 (⟨some 98, .callF 18 [(.t 97)], none, 1, []⟩ ::
 ([⟨some 96, .mov (.t 98), none, 2, []⟩,
 ⟨some 99, .extract (.t 96) 0, none, 3, []⟩,
 ⟨some 100, .extract (.t 96) 1, none, 4, []⟩,
 ⟨some 19, .alloc 40 [(.int .i64 0), (.int .i64 0), (.string ⟨⟨[]⟩⟩), (.slice none 0 0), (.slice none 0 0)], none, 5, []⟩,
 ⟨none, .store 5 (.t 19) (.t 99), none, 6, []⟩,
 ⟨some 20, .mov (.t 100), none, 7, []⟩]))))
 (.seq
 (.region 0 ([⟨some 101, .mov (.t 20), none, 0, []⟩,
 ⟨some 102, .bin .eql (.t 101) (.c (.int .i64 0)), none, 1, []⟩]))
 (.cond (.t 102)
 (.seq
 (.many 0 ([⟨some 104, .loadN 5 (.t 19), none, 0, []⟩] ++
 (⟨some 105, .callF 16 [(.t 104)], none, 1, []⟩ ::
 ([⟨some 103, .mov (.t 105), none, 2, []⟩,
 ⟨some 106, .extract (.t 103) 0, none, 3, []⟩,
 ⟨some 107, .extract (.t 103) 1, none, 4, []⟩,
 ⟨some 21, .mov (.t 106), none, 5, []⟩,
 ⟨some 22, .mov (.t 107), none, 6, []⟩]))))
 (.seq
 (.region 0 ([⟨some 108, .mov (.t 22), none, 0, []⟩,
 ⟨some 109, .bin .neq (.t 108) (.c (.int .i64 0)), none, 1, []⟩,
 ⟨some 110, .mov (.t 109), none, 2, []⟩,
 ⟨some 111, .mov (.t 21), some (some 110, false), 3, []⟩,
 ⟨some 112, .convBS (.t 111), some (some 110, false), 4, []⟩,
 ⟨some 113, .mov (.t 2), some (some 110, false), 5, []⟩,
 ⟨some 114, .convBS (.t 113), some (some 110, false), 6, []⟩,
 ⟨some 115, .bin .neq (.t 112) (.t 114), some (some 110, false), 7, []⟩,
 ⟨some 116, .pick (.t 110) (.c (.bool true)) (.t 115), none, 8, []⟩]))
 (.cond (.t 116)
 (.seq
 (.region 0 ([⟨some 6, .mov (.c (.bool false)), none, 0, []⟩]))
 (.ret))
 (.skip))))
 (.skip))))
 (.seq
 (.many 0 (⟨some 117, .callF 9 [], none, 0, []⟩ ::
 ([⟨some 6, .mov (.t 117), none, 1, []⟩])))
 (.ret)))))))),
 [.tmp 6]⟩
def tithinglaw26_LongCall : CFunc := ⟨25,
 (.seq
 (.region 2 ([⟨some 1, .box 28 (.t 0), none, 0, []⟩,
 ⟨some 2, .mov (.c (.bool false)), none, 1, []⟩]))
 (.seq
 (.region 0 ([⟨some 3, .faddr 0 (.t 1), none, 0, []⟩,
 ⟨some 4, .load1 (.t 3), none, 1, []⟩,
 ⟨some 5, .lenS (.t 4), none, 2, []⟩,
 ⟨some 6, .bin .gtr (.t 5) (.c (.int .i64 60)), none, 3, []⟩,
 ⟨some 7, .mov (.t 6), none, 4, []⟩,
 ⟨some 8, .faddr 3 (.t 1), some (some 7, false), 5, []⟩,
 ⟨some 9, .load1 (.t 8), some (some 7, false), 6, []⟩,
 ⟨some 10, .lenS (.t 9), some (some 7, false), 7, []⟩,
 ⟨some 11, .bin .gtr (.t 10) (.c (.int .i64 60)), some (some 7, false), 8, []⟩,
 ⟨some 12, .pick (.t 7) (.c (.bool true)) (.t 11), none, 9, []⟩,
 ⟨some 13, .mov (.t 12), none, 10, []⟩,
 ⟨some 14, .faddr 4 (.t 1), some (some 13, false), 11, []⟩,
 ⟨some 15, .load1 (.t 14), some (some 13, false), 12, []⟩,
 ⟨some 16, .lenS (.t 15), some (some 13, false), 13, []⟩,
 ⟨some 17, .bin .gtr (.t 16) (.c (.int .i64 60)), some (some 13, false), 14, []⟩,
 ⟨some 18, .pick (.t 13) (.c (.bool true)) (.t 17), none, 15, []⟩,
 ⟨some 19, .mov (.t 18), none, 16, []⟩,
 ⟨some 20, .faddr 18 (.t 1), some (some 19, false), 17, []⟩,
 ⟨some 21, .load1 (.t 20), some (some 19, false), 18, []⟩,
 ⟨some 22, .lenV (.t 21), some (some 19, false), 19, []⟩,
 ⟨some 23, .bin .gtr (.t 22) (.c (.int .i64 500)), some (some 19, false), 20, []⟩,
 ⟨some 24, .pick (.t 19) (.c (.bool true)) (.t 23), none, 21, []⟩,
 ⟨some 2, .mov (.t 24), none, 22, []⟩]))
 (.ret))),
 [.tmp 2]⟩
def client_PutCall_l0 : CCode :=
 (.seq
 (.region 0 ([⟨some 63, .bin .lss (.t 62) (.t 61), none, 0, []⟩]))
 (.seq
 (.cond (.t 63)
 (.skip)
 (.exit 0))
 (.seq
 (.block 1
 (.seq
 (.region 0 ([⟨some 64, .iaddrV 1 (.t 60) (.t 62), none, 0, []⟩,
 ⟨some 65, .load1 (.t 64), none, 1, []⟩,
 ⟨some 9, .mov (.t 65), none, 2, []⟩]))
 (.many 0 ([⟨some 66, .mov (.t 7), none, 0, []⟩,
 ⟨some 67, .mov (.t 9), none, 1, []⟩] ++
 (⟨some 68, .callF 31 [(.t 67)], none, 2, []⟩ ::
 ([⟨some 69, .append 5 1 1 (.t 66) (.t 68), none, 3, []⟩,
 ⟨some 7, .mov (.t 69), none, 4, []⟩]))))))
 (.region 0 ([⟨some 70, .bin .add (.t 62) (.c (.int .i64 1)), none, 0, []⟩,
 ⟨some 62, .mov (.t 70), none, 1, []⟩])))))
def client_PutCall : CFunc := ⟨89,
 (.seq
 (.region 3 ([⟨some 1, .box 28 (.t 0), none, 0, []⟩,
 ⟨some 2, .mov (.c (.slice none 0 0)), none, 1, []⟩,
 ⟨some 3, .mov (.c (.int .i64 0)), none, 2, []⟩]))
 (.seq
 (.region 12 ([⟨some 10, .faddr 1 (.t 1), none, 0, []⟩,
 ⟨some 11, .load1 (.t 10), none, 1, []⟩,
 ⟨some 12, .faddr 2 (.t 1), none, 2, []⟩,
 ⟨some 13, .load1 (.t 12), none, 3, []⟩,
 ⟨some 14, .faddr 5 (.t 1), none, 4, []⟩,
 ⟨some 15, .load1 (.t 14), none, 5, []⟩,
 ⟨some 16, .faddr 6 (.t 1), none, 6, []⟩,
 ⟨some 17, .load1 (.t 16), none, 7, []⟩,
 ⟨some 18, .faddr 7 (.t 1), none, 8, []⟩,
 ⟨some 19, .load1 (.t 18), none, 9, []⟩,
 ⟨some 20, .buildSlice 3 5 [(.int .i64 0), (.int .i64 0), (.int .i64 0), (.int .i64 0), (.int .i64 0)] [(0, 1, (.t 11)), (1, 1, (.t 13)), (2, 1, (.t 15)), (3, 1, (.t 17)), (4, 1, (.t 19))], none, 10, []⟩,
 ⟨some 4, .mov (.t 20), none, 11, []⟩]))
 (.seq
 (.many 0 ([⟨some 22, .faddr 12 (.t 1), none, 0, []⟩,
 ⟨some 23, .loadN 6 (.t 22), none, 1, []⟩] ++
 (⟨some 24, .callF 26 [(.t 23)], none, 2, []⟩ ::
 ([⟨some 21, .mov (.t 24), none, 3, []⟩,
 ⟨some 25, .extract (.t 21) 0, none, 4, []⟩,
 ⟨some 26, .extract (.t 21) 1, none, 5, []⟩,
 ⟨some 5, .mov (.t 25), none, 6, []⟩,
 ⟨some 6, .mov (.t 26), none, 7, []⟩]))))
 (.seq
 (.seq
 (.many 0 ([⟨some 27, .mov (.t 6), none, 0, []⟩,
 ⟨some 28, .bin .neq (.t 27) (.c (.int .i64 0)), none, 1, []⟩,
 ⟨some 29, .mov (.t 28), none, 2, []⟩,
 ⟨some 30, .mov (.t 4), some (some 29, false), 3, []⟩] ++
 (⟨some 31, .callF 27 [(.t 30), (.c (.func (.func 28) ⟨[]⟩ ⟨[]⟩))], some (some 29, false), 4, []⟩ ::
 ([⟨some 32, .pick (.t 29) (.c (.bool true)) (.t 31), none, 5, []⟩,
 ⟨some 33, .mov (.t 32), none, 6, []⟩,
 ⟨some 34, .faddr 0 (.t 1), some (some 33, false), 7, []⟩,
 ⟨some 35, .load1 (.t 34), some (some 33, false), 8, []⟩,
 ⟨some 36, .lenS (.t 35), some (some 33, false), 9, []⟩,
 ⟨some 37, .bin .gtr (.t 36) (.c (.int .i64 31)), some (some 33, false), 10, []⟩,
 ⟨some 38, .pick (.t 33) (.c (.bool true)) (.t 37), none, 11, []⟩,
 ⟨some 39, .mov (.t 38), none, 12, []⟩,
 ⟨some 40, .faddr 3 (.t 1), some (some 39, false), 13, []⟩,
 ⟨some 41, .load1 (.t 40), some (some 39, false), 14, []⟩,
 ⟨some 42, .lenS (.t 41), some (some 39, false), 15, []⟩,
 ⟨some 43, .bin .gtr (.t 42) (.c (.int .i64 31)), some (some 39, false), 16, []⟩,
 ⟨some 44, .pick (.t 39) (.c (.bool true)) (.t 43), none, 17, []⟩,
 ⟨some 45, .mov (.t 44), none, 18, []⟩,
 ⟨some 46, .faddr 4 (.t 1), some (some 45, false), 19, []⟩,
 ⟨some 47, .load1 (.t 46), some (some 45, false), 20, []⟩,
 ⟨some 48, .lenS (.t 47), some (some 45, false), 21, []⟩,
 ⟨some 49, .bin .gtr (.t 48) (.c (.int .i64 31)), some (some 45, false), 22, []⟩,
 ⟨some 50, .pick (.t 45) (.c (.bool true)) (.t 49), none, 23, []⟩,
 ⟨some 51, .mov (.t 50), none, 24, []⟩,
 ⟨some 52, .faddr 18 (.t 1), some (some 51, false), 25, []⟩,
 ⟨some 53, .load1 (.t 52), some (some 51, false), 26, []⟩,
 ⟨some 54, .lenV (.t 53), some (some 51, false), 27, []⟩,
 ⟨some 55, .bin .gtr (.t 54) (.c (.int .i64 200)), some (some 51, false), 28, []⟩,
 ⟨some 56, .pick (.t 51) (.c (.bool true)) (.t 55), none, 29, []⟩]))))
 (.cond (.t 56)
 (.seq
 (.region 0 ([⟨some 2, .mov (.c (.slice none 0 0)), none, 0, []⟩,
 ⟨some 3, .mov (.c (.int .i64 2)), none, 1, []⟩]))
 (.ret))
 (.skip)))
 (.seq
 (.many 0 ([⟨some 57, .faddr 0 (.t 1), none, 0, []⟩,
 ⟨some 58, .load1 (.t 57), none, 1, []⟩] ++
 (⟨some 59, .callF 30 [(.t 58)], none, 2, []⟩ ::
 ([⟨some 7, .mov (.t 59), none, 3, []⟩]))))
 (.seq
 (.seq
 (.region 0 ([⟨some 60, .mov (.t 4), none, 0, []⟩,
 ⟨some 61, .lenV (.t 60), none, 1, []⟩,
 ⟨some 62, .mov (.c (.int .i64 0)), none, 2, []⟩]))
 (.block 0
 (.loop client_PutCall_l0)))
 (.seq
 (.region 18 ([⟨some 71, .mov (.t 7), none, 0, []⟩,
 ⟨some 72, .faddr 3 (.t 1), none, 1, []⟩,
 ⟨some 73, .load1 (.t 72), none, 2, []⟩,
 ⟨some 75, .faddr 4 (.t 1), none, 4, []⟩,
 ⟨some 76, .load1 (.t 75), none, 5, []⟩,
 ⟨some 78, .faddr 8 (.t 1), none, 7, []⟩,
 ⟨some 79, .loadN 4 (.t 78), none, 8, []⟩,
 ⟨some 82, .mov (.t 5), none, 11, []⟩,
 ⟨some 83, .faddr 18 (.t 1), none, 12, []⟩,
 ⟨some 84, .load1 (.t 83), none, 13, []⟩] ++
 (⟨some 74, .callF 30 [(.t 73)], none, 3, [((some 76), .load1 (.t 75), none), ((some 79), .loadN 4 (.t 78), none), ((some 84), .load1 (.t 83), none)]⟩ ::
 (⟨some 77, .callF 30 [(.t 76)], none, 6, [((some 79), .loadN 4 (.t 78), none), ((some 84), .load1 (.t 83), none)]⟩ ::
 (⟨some 80, .callF 33 [(.t 79)], none, 9, [((some 84), .load1 (.t 83), none)]⟩ ::
 (⟨some 85, .callF 34 [(.t 84)], none, 14, []⟩ ::
 ([⟨some 81, .buildSlice 5 1 [(.int .u8 0)] [(0, 1, (.t 80))], none, 10, []⟩,
 ⟨some 86, .buildSlice 26 6 [(.slice none 0 0), (.slice none 0 0), (.slice none 0 0), (.slice none 0 0), (.slice none 0 0), (.slice none 0 0)] [(0, 1, (.t 71)), (1, 1, (.t 74)), (2, 1, (.t 77)), (3, 1, (.t 81)), (4, 1, (.t 82)), (5, 1, (.t 85))], none, 15, []⟩] ++
 (⟨some 87, .callF 32 [(.t 86)], none, 16, []⟩ ::
 ([⟨some 7, .mov (.t 87), none, 17, []⟩])))))))))
 (.seq
 (.region 0 ([⟨some 88, .mov (.t 7), none, 0, []⟩,
 ⟨some 2, .mov (.t 88), none, 1, []⟩,
 ⟨some 3, .mov (.c (.int .i64 0)), none, 2, []⟩]))
 (.ret))))))))),
 [.tmp 2, .tmp 3]⟩
def client_GetCall : CFunc := ⟨64,
 (.seq
 (.region 2 ([⟨some 2, .alloc 28 [(.string ⟨⟨[]⟩⟩), (.int .i64 0), (.int .i64 0), (.string ⟨⟨[]⟩⟩), (.string ⟨⟨[]⟩⟩), (.int .i64 0), (.int .i64 0), (.int .i64 0), (.bool false), (.bool false), (.bool false), (.bool false), (.int .i64 0), (.int .i64 0), (.int .i64 0), (.int .i64 0), (.int .i64 0), (.bool false), (.slice none 0 0)], none, 0, []⟩,
 ⟨some 3, .mov (.c (.int .i64 0)), none, 1, []⟩]))
 (.seq
 (.region 4 ([⟨some 8, .mov (.t 0), none, 0, []⟩,
 ⟨some 9, .build [(.slice none 0 0), (.int .i64 0), (.int .i64 0)] [(0, 1, (.t 8))], none, 1, []⟩,
 ⟨some 10, .box 75 (.t 9), none, 2, []⟩,
 ⟨some 4, .mov (.t 10), none, 3, []⟩]))
 (.seq
 (.many 5 ([⟨some 11, .mov (.t 4), none, 0, []⟩] ++
 (⟨some 12, .callF 40 [(.t 11)], none, 1, []⟩ ::
 ([⟨some 13, .build [(.string ⟨⟨[]⟩⟩), (.int .i64 0), (.int .i64 0), (.string ⟨⟨[]⟩⟩), (.string ⟨⟨[]⟩⟩), (.int .i64 0), (.int .i64 0), (.int .i64 0), (.bool false), (.bool false), (.bool false), (.bool false), (.int .i64 0), (.int .i64 0), (.int .i64 0), (.int .i64 0), (.int .i64 0), (.bool false), (.slice none 0 0)] [(0, 1, (.t 12))], none, 2, []⟩,
 ⟨some 5, .alloc 28 [(.string ⟨⟨[]⟩⟩), (.int .i64 0), (.int .i64 0), (.string ⟨⟨[]⟩⟩), (.string ⟨⟨[]⟩⟩), (.int .i64 0), (.int .i64 0), (.int .i64 0), (.bool false), (.bool false), (.bool false), (.bool false), (.int .i64 0), (.int .i64 0), (.int .i64 0), (.int .i64 0), (.int .i64 0), (.bool false), (.slice none 0 0)], none, 3, []⟩,
 ⟨none, .store 19 (.t 5) (.t 13), none, 4, []⟩]))))
 (.seq
 (.many 0 ([⟨some 14, .mov (.t 4), none, 0, []⟩] ++
 (⟨some 15, .callF 41 [(.t 14)], none, 1, []⟩ ::
 ([⟨some 16, .faddr 1 (.t 5), none, 2, []⟩,
 ⟨none, .store 1 (.t 16) (.t 15), none, 3, []⟩]))))
 (.seq
 (.many 0 ([⟨some 17, .mov (.t 4), none, 0, []⟩] ++
 (⟨some 18, .callF 41 [(.t 17)], none, 1, []⟩ ::
 ([⟨some 19, .faddr 2 (.t 5), none, 2, []⟩,
 ⟨none, .store 1 (.t 19) (.t 18), none, 3, []⟩]))))
 (.seq
 (.many 0 ([⟨some 20, .mov (.t 4), none, 0, []⟩] ++
 (⟨some 21, .callF 41 [(.t 20)], none, 1, []⟩ ::
 ([⟨some 22, .faddr 5 (.t 5), none, 2, []⟩,
 ⟨none, .store 1 (.t 22) (.t 21), none, 3, []⟩]))))
 (.seq
 (.many 0 ([⟨some 23, .mov (.t 4), none, 0, []⟩] ++
 (⟨some 24, .callF 41 [(.t 23)], none, 1, []⟩ ::
 ([⟨some 25, .faddr 6 (.t 5), none, 2, []⟩,
 ⟨none, .store 1 (.t 25) (.t 24), none, 3, []⟩]))))
 (.seq
 (.many 0 ([⟨some 26, .mov (.t 4), none, 0, []⟩] ++
 (⟨some 27, .callF 41 [(.t 26)], none, 1, []⟩ ::
 ([⟨some 28, .faddr 7 (.t 5), none, 2, []⟩,
 ⟨none, .store 1 (.t 28) (.t 27), none, 3, []⟩]))))
 (.seq
 (.many 0 ([⟨some 29, .mov (.t 4), none, 0, []⟩] ++
 (⟨some 30, .callF 40 [(.t 29)], none, 1, []⟩ ::
 ([⟨some 31, .faddr 3 (.t 5), none, 2, []⟩,
 ⟨none, .store 1 (.t 31) (.t 30), none, 3, []⟩]))))
 (.seq
 (.many 0 ([⟨some 32, .mov (.t 4), none, 0, []⟩] ++
 (⟨some 33, .callF 40 [(.t 32)], none, 1, []⟩ ::
 ([⟨some 34, .faddr 4 (.t 5), none, 2, []⟩,
 ⟨none, .store 1 (.t 34) (.t 33), none, 3, []⟩]))))
 (.seq
 (.many 0 ([⟨some 35, .mov (.t 4), none, 0, []⟩] ++
 (⟨some 36, .callF 42 [(.t 35), (.c (.int .i64 15))], none, 1, []⟩ ::
 ([⟨some 6, .mov (.t 36), none, 2, []⟩]))))
 (.seq
 (.region 0 ([⟨some 37, .mov (.t 6), none, 0, []⟩,
 ⟨some 38, .bin .and (.t 37) (.c (.int .i64 1)), none, 1, []⟩,
 ⟨some 39, .bin .neq (.t 38) (.c (.int .i64 0)), none, 2, []⟩,
 ⟨some 40, .mov (.t 6), none, 3, []⟩,
 ⟨some 41, .bin .and (.t 40) (.c (.int .i64 2)), none, 4, []⟩,
 ⟨some 42, .bin .neq (.t 41) (.c (.int .i64 0)), none, 5, []⟩,
 ⟨some 43, .mov (.t 6), none, 6, []⟩,
 ⟨some 44, .bin .and (.t 43) (.c (.int .i64 4)), none, 7, []⟩,
 ⟨some 45, .bin .neq (.t 44) (.c (.int .i64 0)), none, 8, []⟩,
 ⟨some 46, .mov (.t 6), none, 9, []⟩,
 ⟨some 47, .bin .and (.t 46) (.c (.int .i64 8)), none, 10, []⟩,
 ⟨some 48, .bin .neq (.t 47) (.c (.int .i64 0)), none, 11, []⟩,
 ⟨some 49, .build [(.bool false), (.bool false), (.bool false), (.bool false)] [(0, 1, (.t 39)), (1, 1, (.t 42)), (2, 1, (.t 45)), (3, 1, (.t 48))], none, 12, []⟩,
 ⟨some 50, .faddr 8 (.t 5), none, 13, []⟩,
 ⟨none, .store 4 (.t 50) (.t 49), none, 14, []⟩]))
 (.seq
 (.many 0 ([⟨some 51, .mov (.t 4), none, 0, []⟩] ++
 (⟨some 52, .callF 43 [(.t 51)], none, 1, []⟩ ::
 ([⟨some 53, .faddr 12 (.t 5), none, 2, []⟩,
 ⟨none, .store 6 (.t 53) (.t 52), none, 3, []⟩]))))
 (.seq
 (.many 0 ([⟨some 54, .mov (.t 4), none, 0, []⟩] ++
 (⟨some 55, .callF 44 [(.t 54), (.c (.int .i64 200))], none, 1, []⟩ ::
 ([⟨some 56, .faddr 18 (.t 5), none, 2, []⟩,
 ⟨none, .store 1 (.t 56) (.t 55), none, 3, []⟩]))))
 (.seq
 (.seq
 (.many 0 ([⟨some 57, .mov (.t 4), none, 0, []⟩] ++
 (⟨some 58, .callF 45 [(.t 57)], none, 1, []⟩ ::
 ([⟨some 7, .mov (.t 58), none, 2, []⟩]))))
 (.seq
 (.region 0 ([⟨some 59, .mov (.t 7), none, 0, []⟩,
 ⟨some 60, .bin .neq (.t 59) (.c (.int .i64 0)), none, 1, []⟩]))
 (.cond (.t 60)
 (.seq
 (.region 0 ([⟨some 61, .build [(.string ⟨⟨[]⟩⟩), (.int .i64 0), (.int .i64 0), (.string ⟨⟨[]⟩⟩), (.string ⟨⟨[]⟩⟩), (.int .i64 0), (.int .i64 0), (.int .i64 0), (.bool false), (.bool false), (.bool false), (.bool false), (.int .i64 0), (.int .i64 0), (.int .i64 0), (.int .i64 0), (.int .i64 0), (.bool false), (.slice none 0 0)] [], none, 0, []⟩,
 ⟨some 62, .mov (.t 7), none, 1, []⟩,
 ⟨none, .store 19 (.t 2) (.t 61), none, 2, []⟩,
 ⟨some 3, .mov (.t 62), none, 3, []⟩]))
 (.ret))
 (.skip))))
 (.seq
 (.region 0 ([⟨some 63, .loadN 19 (.t 5), none, 0, []⟩,
 ⟨none, .store 19 (.t 2) (.t 63), none, 1, []⟩,
 ⟨some 3, .mov (.c (.int .i64 0)), none, 2, []⟩]))
 (.ret))))))))))))))))),
 [.cell 2 true 19, .tmp 3]⟩
def tithingref26_SameCalls : CFunc := ⟨82,
 (.seq
 (.region 3 ([⟨some 2, .box 28 (.t 0), none, 0, []⟩,
 ⟨some 3, .box 28 (.t 1), none, 1, []⟩,
 ⟨some 4, .mov (.c (.bool false)), none, 2, []⟩]))
 (.seq
 (.region 0 ([⟨some 5, .faddr 0 (.t 2), none, 0, []⟩,
 ⟨some 6, .load1 (.t 5), none, 1, []⟩,
 ⟨some 7, .faddr 0 (.t 3), none, 2, []⟩,
 ⟨some 8, .load1 (.t 7), none, 3, []⟩,
 ⟨some 9, .bin .eql (.t 6) (.t 8), none, 4, []⟩,
 ⟨some 10, .mov (.t 9), none, 5, []⟩,
 ⟨some 11, .faddr 1 (.t 2), some (some 10, true), 6, []⟩,
 ⟨some 12, .load1 (.t 11), some (some 10, true), 7, []⟩,
 ⟨some 13, .faddr 1 (.t 3), some (some 10, true), 8, []⟩,
 ⟨some 14, .load1 (.t 13), some (some 10, true), 9, []⟩,
 ⟨some 15, .bin .eql (.t 12) (.t 14), some (some 10, true), 10, []⟩,
 ⟨some 16, .pick (.t 10) (.t 15) (.c (.bool false)), none, 11, []⟩,
 ⟨some 17, .mov (.t 16), none, 12, []⟩,
 ⟨some 18, .faddr 2 (.t 2), some (some 17, true), 13, []⟩,
 ⟨some 19, .load1 (.t 18), some (some 17, true), 14, []⟩,
 ⟨some 20, .faddr 2 (.t 3), some (some 17, true), 15, []⟩,
 ⟨some 21, .load1 (.t 20), some (some 17, true), 16, []⟩,
 ⟨some 22, .bin .eql (.t 19) (.t 21), some (some 17, true), 17, []⟩,
 ⟨some 23, .pick (.t 17) (.t 22) (.c (.bool false)), none, 18, []⟩,
 ⟨some 24, .mov (.t 23), none, 19, []⟩,
 ⟨some 25, .faddr 3 (.t 2), some (some 24, true), 20, []⟩,
 ⟨some 26, .load1 (.t 25), some (some 24, true), 21, []⟩,
 ⟨some 27, .faddr 3 (.t 3), some (some 24, true), 22, []⟩,
 ⟨some 28, .load1 (.t 27), some (some 24, true), 23, []⟩,
 ⟨some 29, .bin .eql (.t 26) (.t 28), some (some 24, true), 24, []⟩,
 ⟨some 30, .pick (.t 24) (.t 29) (.c (.bool false)), none, 25, []⟩,
 ⟨some 31, .mov (.t 30), none, 26, []⟩,
 ⟨some 32, .faddr 4 (.t 2), some (some 31, true), 27, []⟩,
 ⟨some 33, .load1 (.t 32), some (some 31, true), 28, []⟩,
 ⟨some 34, .faddr 4 (.t 3), some (some 31, true), 29, []⟩,
 ⟨some 35, .load1 (.t 34), some (some 31, true), 30, []⟩,
 ⟨some 36, .bin .eql (.t 33) (.t 35), some (some 31, true), 31, []⟩,
 ⟨some 37, .pick (.t 31) (.t 36) (.c (.bool false)), none, 32, []⟩,
 ⟨some 38, .mov (.t 37), none, 33, []⟩,
 ⟨some 39, .faddr 5 (.t 2), some (some 38, true), 34, []⟩,
 ⟨some 40, .load1 (.t 39), some (some 38, true), 35, []⟩,
 ⟨some 41, .faddr 5 (.t 3), some (some 38, true), 36, []⟩,
 ⟨some 42, .load1 (.t 41), some (some 38, true), 37, []⟩,
 ⟨some 43, .bin .eql (.t 40) (.t 42), some (some 38, true), 38, []⟩,
 ⟨some 44, .pick (.t 38) (.t 43) (.c (.bool false)), none, 39, []⟩,
 ⟨some 45, .mov (.t 44), none, 40, []⟩,
 ⟨some 46, .faddr 6 (.t 2), some (some 45, true), 41, []⟩,
 ⟨some 47, .load1 (.t 46), some (some 45, true), 42, []⟩,
 ⟨some 48, .faddr 6 (.t 3), some (some 45, true), 43, []⟩,
 ⟨some 49, .load1 (.t 48), some (some 45, true), 44, []⟩,
 ⟨some 50, .bin .eql (.t 47) (.t 49), some (some 45, true), 45, []⟩,
 ⟨some 51, .pick (.t 45) (.t 50) (.c (.bool false)), none, 46, []⟩,
 ⟨some 52, .mov (.t 51), none, 47, []⟩,
 ⟨some 53, .faddr 7 (.t 2), some (some 52, true), 48, []⟩,
 ⟨some 54, .load1 (.t 53), some (some 52, true), 49, []⟩,
 ⟨some 55, .faddr 7 (.t 3), some (some 52, true), 50, []⟩,
 ⟨some 56, .load1 (.t 55), some (some 52, true), 51, []⟩,
 ⟨some 57, .bin .eql (.t 54) (.t 56), some (some 52, true), 52, []⟩,
 ⟨some 58, .pick (.t 52) (.t 57) (.c (.bool false)), none, 53, []⟩,
 ⟨some 59, .mov (.t 58), none, 54, []⟩,
 ⟨some 60, .faddr 8 (.t 2), some (some 59, true), 55, []⟩,
 ⟨some 61, .loadN 4 (.t 60), some (some 59, true), 56, []⟩,
 ⟨some 62, .faddr 8 (.t 3), some (some 59, true), 57, []⟩,
 ⟨some 63, .loadN 4 (.t 62), some (some 59, true), 58, []⟩,
 ⟨some 64, .eqCells false 4 [(0, .bool), (1, .bool), (2, .bool), (3, .bool)] (.t 61) (.t 63), some (some 59, true), 59, []⟩,
 ⟨some 65, .pick (.t 59) (.t 64) (.c (.bool false)), none, 60, []⟩,
 ⟨some 66, .mov (.t 65), none, 61, []⟩,
 ⟨some 67, .faddr 12 (.t 2), some (some 66, true), 62, []⟩,
 ⟨some 68, .loadN 6 (.t 67), some (some 66, true), 63, []⟩,
 ⟨some 69, .faddr 12 (.t 3), some (some 66, true), 64, []⟩,
 ⟨some 70, .loadN 6 (.t 69), some (some 66, true), 65, []⟩,
 ⟨some 71, .eqCells false 6 [(0, .int), (1, .int), (2, .int), (3, .int), (4, .int), (5, .bool)] (.t 68) (.t 70), some (some 66, true), 66, []⟩,
 ⟨some 72, .pick (.t 66) (.t 71) (.c (.bool false)), none, 67, []⟩,
 ⟨some 73, .mov (.t 72), none, 68, []⟩,
 ⟨some 74, .faddr 18 (.t 2), some (some 73, true), 69, []⟩,
 ⟨some 75, .load1 (.t 74), some (some 73, true), 70, []⟩,
 ⟨some 76, .convBS (.t 75), some (some 73, true), 71, []⟩,
 ⟨some 77, .faddr 18 (.t 3), some (some 73, true), 72, []⟩,
 ⟨some 78, .load1 (.t 77), some (some 73, true), 73, []⟩,
 ⟨some 79, .convBS (.t 78), some (some 73, true), 74, []⟩,
 ⟨some 80, .bin .eql (.t 76) (.t 79), some (some 73, true), 75, []⟩,
 ⟨some 81, .pick (.t 73) (.t 80) (.c (.bool false)), none, 76, []⟩,
 ⟨some 4, .mov (.t 81), none, 77, []⟩]))
 (.ret))),
 [.tmp 4]⟩
def tithinglaw26_longReply_l0 : CCode :=
 (.seq
 (.seq
 (.region 0 ([⟨some 4, .mov (.t 3), none, 0, []⟩,
 ⟨some 5, .faddr 4 (.t 1), none, 1, []⟩,
 ⟨some 6, .load1 (.t 5), none, 2, []⟩,
 ⟨some 7, .lenV (.t 6), none, 3, []⟩,
 ⟨some 8, .bin .lss (.t 4) (.t 7), none, 4, []⟩]))
 (.cond (.t 8)
 (.skip)
 (.exit 0)))
 (.seq
 (.block 1
 (.seq
 (.region 0 ([⟨some 11, .faddr 4 (.t 1), none, 0, []⟩,
 ⟨some 12, .load1 (.t 11), none, 1, []⟩,
 ⟨some 13, .mov (.t 3), none, 2, []⟩,
 ⟨some 14, .iaddrV 4 (.t 12) (.t 13), none, 3, []⟩,
 ⟨some 15, .faddr 2 (.t 14), none, 4, []⟩,
 ⟨some 16, .load1 (.t 15), none, 5, []⟩,
 ⟨some 17, .lenS (.t 16), none, 6, []⟩,
 ⟨some 18, .bin .gtr (.t 17) (.c (.int .i64 60)), none, 7, []⟩]))
 (.cond (.t 18)
 (.seq
 (.region 0 ([⟨some 2, .mov (.c (.bool true)), none, 0, []⟩]))
 (.ret))
 (.skip))))
 (.region 0 ([⟨some 9, .mov (.t 3), none, 0, []⟩,
 ⟨some 10, .bin .add (.t 9) (.c (.int .i64 1)), none, 1, []⟩,
 ⟨some 3, .mov (.t 10), none, 2, []⟩]))))
def tithinglaw26_longReply : CFunc := ⟨35,
 (.seq
 (.region 2 ([⟨some 1, .box 40 (.t 0), none, 0, []⟩,
 ⟨some 2, .mov (.c (.bool false)), none, 1, []⟩]))
 (.seq
 (.seq
 (.region 0 ([⟨some 3, .mov (.c (.int .i64 0)), none, 0, []⟩]))
 (.block 0
 (.loop tithinglaw26_longReply_l0)))
 (.seq
 (.region 0 ([⟨some 19, .faddr 2 (.t 1), none, 0, []⟩,
 ⟨some 20, .load1 (.t 19), none, 1, []⟩,
 ⟨some 21, .lenS (.t 20), none, 2, []⟩,
 ⟨some 22, .bin .gtr (.t 21) (.c (.int .i64 2000)), none, 3, []⟩,
 ⟨some 23, .mov (.t 22), none, 4, []⟩,
 ⟨some 24, .faddr 3 (.t 1), some (some 23, false), 5, []⟩,
 ⟨some 25, .load1 (.t 24), some (some 23, false), 6, []⟩,
 ⟨some 26, .lenV (.t 25), some (some 23, false), 7, []⟩,
 ⟨some 27, .bin .gtr (.t 26) (.c (.int .i64 2000)), some (some 23, false), 8, []⟩,
 ⟨some 28, .pick (.t 23) (.c (.bool true)) (.t 27), none, 9, []⟩,
 ⟨some 29, .mov (.t 28), none, 10, []⟩,
 ⟨some 30, .faddr 4 (.t 1), some (some 29, false), 11, []⟩,
 ⟨some 31, .load1 (.t 30), some (some 29, false), 12, []⟩,
 ⟨some 32, .lenV (.t 31), some (some 29, false), 13, []⟩,
 ⟨some 33, .bin .gtr (.t 32) (.c (.int .i64 60)), some (some 29, false), 14, []⟩,
 ⟨some 34, .pick (.t 29) (.c (.bool true)) (.t 33), none, 15, []⟩,
 ⟨some 2, .mov (.t 34), none, 16, []⟩]))
 (.ret)))),
 [.tmp 2]⟩
def client_PutReply_l0 : CCode :=
 (.seq
 (.region 0 ([⟨some 74, .bin .lss (.t 73) (.t 72), none, 0, []⟩]))
 (.seq
 (.cond (.t 74)
 (.skip)
 (.exit 0))
 (.seq
 (.block 1
 (.seq
 (.region 4 ([⟨some 75, .iaddrV 4 (.t 71) (.t 73), none, 0, []⟩,
 ⟨some 76, .loadN 4 (.t 75), none, 1, []⟩,
 ⟨some 8, .alloc 85 [(.int .i64 0), (.int .i64 0), (.string ⟨⟨[]⟩⟩), (.bool false)], none, 2, []⟩,
 ⟨none, .store 4 (.t 8) (.t 76), none, 3, []⟩]))
 (.seq
 (.many 0 ([⟨some 78, .faddr 0 (.t 8), none, 0, []⟩,
 ⟨some 79, .load1 (.t 78), none, 1, []⟩] ++
 (⟨some 80, .callF 53 [(.c (.int .i64 4)), (.t 79)], none, 2, []⟩ ::
 ([⟨some 77, .mov (.t 80), none, 3, []⟩,
 ⟨some 81, .extract (.t 77) 0, none, 4, []⟩,
 ⟨some 82, .extract (.t 77) 1, none, 5, []⟩,
 ⟨some 9, .mov (.t 81), none, 6, []⟩,
 ⟨some 10, .mov (.t 82), none, 7, []⟩]))))
 (.seq
 (.many 0 ([⟨some 84, .faddr 1 (.t 8), none, 0, []⟩,
 ⟨some 85, .load1 (.t 84), none, 1, []⟩] ++
 (⟨some 86, .callF 53 [(.c (.int .i64 4)), (.t 85)], none, 2, []⟩ ::
 ([⟨some 83, .mov (.t 86), none, 3, []⟩,
 ⟨some 87, .extract (.t 83) 0, none, 4, []⟩,
 ⟨some 88, .extract (.t 83) 1, none, 5, []⟩,
 ⟨some 11, .mov (.t 87), none, 6, []⟩,
 ⟨some 12, .mov (.t 88), none, 7, []⟩]))))
 (.seq
 (.seq
 (.region 0 ([⟨some 89, .mov (.t 10), none, 0, []⟩,
 ⟨some 90, .bin .neq (.t 89) (.c (.int .i64 0)), none, 1, []⟩,
 ⟨some 91, .mov (.t 90), none, 2, []⟩,
 ⟨some 92, .mov (.t 12), some (some 91, false), 3, []⟩,
 ⟨some 93, .bin .neq (.t 92) (.c (.int .i64 0)), some (some 91, false), 4, []⟩,
 ⟨some 94, .pick (.t 91) (.c (.bool true)) (.t 93), none, 5, []⟩,
 ⟨some 95, .mov (.t 94), none, 6, []⟩,
 ⟨some 96, .faddr 2 (.t 8), some (some 95, false), 7, []⟩,
 ⟨some 97, .load1 (.t 96), some (some 95, false), 8, []⟩,
 ⟨some 98, .lenS (.t 97), some (some 95, false), 9, []⟩,
 ⟨some 99, .bin .gtr (.t 98) (.c (.int .i64 31)), some (some 95, false), 10, []⟩,
 ⟨some 100, .pick (.t 95) (.c (.bool true)) (.t 99), none, 11, []⟩]))
 (.cond (.t 100)
 (.seq
 (.region 0 ([⟨some 2, .mov (.c (.slice none 0 0)), none, 0, []⟩,
 ⟨some 3, .mov (.c (.int .i64 2)), none, 1, []⟩]))
 (.ret))
 (.skip)))
 (.seq
 (.region 0 ([⟨some 13, .mov (.c (.int .u8 0)), none, 0, []⟩]))
 (.seq
 (.seq
 (.region 0 ([⟨some 101, .faddr 3 (.t 8), none, 0, []⟩,
 ⟨some 102, .load1 (.t 101), none, 1, []⟩]))
 (.cond (.t 102)
 (.region 0 ([⟨some 13, .mov (.c (.int .u8 1)), none, 0, []⟩]))
 (.skip)))
 (.many 11 ([⟨some 103, .mov (.t 6), none, 0, []⟩,
 ⟨some 104, .mov (.t 9), none, 1, []⟩,
 ⟨some 105, .mov (.t 11), none, 2, []⟩,
 ⟨some 106, .mov (.t 13), none, 3, []⟩,
 ⟨some 107, .buildSlice 5 1 [(.int .u8 0)] [(0, 1, (.t 106))], none, 4, []⟩,
 ⟨some 108, .faddr 2 (.t 8), none, 5, []⟩,
 ⟨some 109, .load1 (.t 108), none, 6, []⟩] ++
 (⟨some 110, .callF 30 [(.t 109)], none, 7, []⟩ ::
 ([⟨some 111, .buildSlice 26 5 [(.slice none 0 0), (.slice none 0 0), (.slice none 0 0), (.slice none 0 0), (.slice none 0 0)] [(0, 1, (.t 103)), (1, 1, (.t 104)), (2, 1, (.t 105)), (3, 1, (.t 107)), (4, 1, (.t 110))], none, 8, []⟩] ++
 (⟨some 112, .callF 32 [(.t 111)], none, 9, []⟩ ::
 ([⟨some 6, .mov (.t 112), none, 10, []⟩])))))))))))))
 (.region 0 ([⟨some 113, .bin .add (.t 73) (.c (.int .i64 1)), none, 0, []⟩,
 ⟨some 73, .mov (.t 113), none, 1, []⟩])))))
def client_PutReply : CFunc := ⟨115,
 (.seq
 (.region 3 ([⟨some 1, .box 40 (.t 0), none, 0, []⟩,
 ⟨some 2, .mov (.c (.slice none 0 0)), none, 1, []⟩,
 ⟨some 3, .mov (.c (.int .i64 0)), none, 2, []⟩]))
 (.seq
 (.seq
 (.many 0 ([⟨some 14, .faddr 0 (.t 1), none, 0, []⟩,
 ⟨some 15, .load1 (.t 14), none, 1, []⟩,
 ⟨some 16, .bin .lss (.t 15) (.c (.int .i64 0)), none, 2, []⟩,
 ⟨some 17, .mov (.t 16), none, 3, []⟩,
 ⟨some 18, .faddr 0 (.t 1), some (some 17, false), 4, []⟩,
 ⟨some 19, .load1 (.t 18), some (some 17, false), 5, []⟩,
 ⟨some 20, .bin .gtr (.t 19) (.c (.int .i64 65535)), some (some 17, false), 6, []⟩,
 ⟨some 21, .pick (.t 17) (.c (.bool true)) (.t 20), none, 7, []⟩,
 ⟨some 22, .mov (.t 21), none, 8, []⟩,
 ⟨some 23, .faddr 1 (.t 1), some (some 22, false), 9, []⟩,
 ⟨some 24, .load1 (.t 23), some (some 22, false), 10, []⟩] ++
 (⟨some 25, .callF 29 [(.t 24)], some (some 22, false), 11, []⟩ ::
 ([⟨some 26, .un .not (.t 25), some (some 22, false), 12, []⟩,
 ⟨some 27, .pick (.t 22) (.c (.bool true)) (.t 26), none, 13, []⟩,
 ⟨some 28, .mov (.t 27), none, 14, []⟩,
 ⟨some 29, .faddr 2 (.t 1), some (some 28, false), 15, []⟩,
 ⟨some 30, .load1 (.t 29), some (some 28, false), 16, []⟩,
 ⟨some 31, .lenS (.t 30), some (some 28, false), 17, []⟩,
 ⟨some 32, .bin .gtr (.t 31) (.c (.int .i64 65535)), some (some 28, false), 18, []⟩,
 ⟨some 33, .pick (.t 28) (.c (.bool true)) (.t 32), none, 19, []⟩,
 ⟨some 34, .mov (.t 33), none, 20, []⟩,
 ⟨some 35, .faddr 3 (.t 1), some (some 34, false), 21, []⟩,
 ⟨some 36, .load1 (.t 35), some (some 34, false), 22, []⟩,
 ⟨some 37, .lenV (.t 36), some (some 34, false), 23, []⟩,
 ⟨some 38, .bin .gtr (.t 37) (.c (.int .i64 300)), some (some 34, false), 24, []⟩,
 ⟨some 39, .pick (.t 34) (.c (.bool true)) (.t 38), none, 25, []⟩,
 ⟨some 40, .mov (.t 39), none, 26, []⟩,
 ⟨some 41, .faddr 4 (.t 1), some (some 40, false), 27, []⟩,
 ⟨some 42, .load1 (.t 41), some (some 40, false), 28, []⟩,
 ⟨some 43, .lenV (.t 42), some (some 40, false), 29, []⟩,
 ⟨some 44, .bin .gtr (.t 43) (.c (.int .i64 20)), some (some 40, false), 30, []⟩,
 ⟨some 45, .pick (.t 40) (.c (.bool true)) (.t 44), none, 31, []⟩]))))
 (.cond (.t 45)
 (.seq
 (.region 0 ([⟨some 2, .mov (.c (.slice none 0 0)), none, 0, []⟩,
 ⟨some 3, .mov (.c (.int .i64 2)), none, 1, []⟩]))
 (.ret))
 (.skip)))
 (.seq
 (.many 0 ([⟨some 47, .faddr 0 (.t 1), none, 0, []⟩,
 ⟨some 48, .load1 (.t 47), none, 1, []⟩] ++
 (⟨some 49, .callF 53 [(.c (.int .i64 2)), (.t 48)], none, 2, []⟩ ::
 ([⟨some 46, .mov (.t 49), none, 3, []⟩,
 ⟨some 50, .extract (.t 46) 0, none, 4, []⟩,
 ⟨some 51, .extract (.t 46) 1, none, 5, []⟩,
 ⟨some 4, .mov (.t 50), none, 6, []⟩,
 ⟨some 5, .mov (.t 51), none, 7, []⟩]))))
 (.seq
 (.region 19 ([⟨some 52, .mov (.t 4), none, 0, []⟩,
 ⟨some 53, .faddr 1 (.t 1), none, 1, []⟩,
 ⟨some 54, .load1 (.t 53), none, 2, []⟩,
 ⟨some 56, .faddr 2 (.t 1), none, 4, []⟩,
 ⟨some 57, .load1 (.t 56), none, 5, []⟩,
 ⟨some 60, .faddr 3 (.t 1), none, 8, []⟩,
 ⟨some 61, .load1 (.t 60), none, 9, []⟩,
 ⟨some 63, .faddr 4 (.t 1), none, 11, []⟩,
 ⟨some 64, .load1 (.t 63), none, 12, []⟩,
 ⟨some 65, .lenV (.t 64), none, 13, []⟩,
 ⟨some 66, .convI .u8 (.t 65), none, 14, []⟩] ++
 (⟨some 55, .callF 31 [(.t 54)], none, 3, [((some 57), .load1 (.t 56), none), ((some 61), .load1 (.t 60), none), ((some 64), .load1 (.t 63), none)]⟩ ::
 ([⟨some 58, .convSB 5 (.t 57), none, 6, []⟩] ++
 (⟨some 59, .callF 34 [(.t 58)], none, 7, [((some 61), .load1 (.t 60), none), ((some 64), .load1 (.t 63), none)]⟩ ::
 (⟨some 62, .callF 34 [(.t 61)], none, 10, [((some 64), .load1 (.t 63), none)]⟩ ::
 ([⟨some 67, .buildSlice 5 1 [(.int .u8 0)] [(0, 1, (.t 66))], none, 15, []⟩,
 ⟨some 68, .buildSlice 26 5 [(.slice none 0 0), (.slice none 0 0), (.slice none 0 0), (.slice none 0 0), (.slice none 0 0)] [(0, 1, (.t 52)), (1, 1, (.t 55)), (2, 1, (.t 59)), (3, 1, (.t 62)), (4, 1, (.t 67))], none, 16, []⟩] ++
 (⟨some 69, .callF 32 [(.t 68)], none, 17, []⟩ ::
 ([⟨some 6, .mov (.t 69), none, 18, []⟩])))))))))
 (.seq
 (.seq
 (.region 0 ([⟨some 70, .faddr 4 (.t 1), none, 0, []⟩,
 ⟨some 71, .load1 (.t 70), none, 1, []⟩,
 ⟨some 72, .lenV (.t 71), none, 2, []⟩,
 ⟨some 73, .mov (.c (.int .i64 0)), none, 3, []⟩]))
 (.block 0
 (.loop client_PutReply_l0)))
 (.seq
 (.region 0 ([⟨some 114, .mov (.t 6), none, 0, []⟩,
 ⟨some 2, .mov (.t 114), none, 1, []⟩,
 ⟨some 3, .mov (.c (.int .i64 0)), none, 2, []⟩]))
 (.ret))))))),
 [.tmp 2, .tmp 3]⟩
def client_GetReply_l0 : CCode :=
 (.seq
 (.seq
 (.region 0 ([⟨some 28, .mov (.t 7), none, 0, []⟩,
 ⟨some 29, .mov (.t 6), none, 1, []⟩,
 ⟨some 30, .bin .lss (.t 28) (.t 29), none, 2, []⟩,
 ⟨some 31, .mov (.t 30), none, 3, []⟩,
 ⟨some 32, .mov (.t 4), some (some 31, true), 4, []⟩,
 ⟨some 33, .nilCheck (.t 32), some (some 31, true), 5, []⟩,
 ⟨some 34, .faddr 2 (.t 33), some (some 31, true), 6, []⟩,
 ⟨some 35, .load1 (.t 34), some (some 31, true), 7, []⟩,
 ⟨some 36, .bin .eql (.t 35) (.c (.int .i64 0)), some (some 31, true), 8, []⟩,
 ⟨some 37, .pick (.t 31) (.t 36) (.c (.bool false)), none, 9, []⟩]))
 (.cond (.t 37)
 (.skip)
 (.exit 0)))
 (.seq
 (.block 1
 (.seq
 (.many 5 ([⟨some 40, .mov (.t 4), none, 0, []⟩] ++
 (⟨some 41, .callF 55 [(.t 40), (.c (.int .i64 4))], none, 1, []⟩ ::
 ([⟨some 42, .build [(.int .i64 0), (.int .i64 0), (.string ⟨⟨[]⟩⟩), (.bool false)] [(0, 1, (.t 41))], none, 2, []⟩,
 ⟨some 8, .alloc 85 [(.int .i64 0), (.int .i64 0), (.string ⟨⟨[]⟩⟩), (.bool false)], none, 3, []⟩,
 ⟨none, .store 4 (.t 8) (.t 42), none, 4, []⟩]))))
 (.seq
 (.many 0 ([⟨some 43, .mov (.t 4), none, 0, []⟩] ++
 (⟨some 44, .callF 55 [(.t 43), (.c (.int .i64 4))], none, 1, []⟩ ::
 ([⟨some 45, .faddr 1 (.t 8), none, 2, []⟩,
 ⟨none, .store 1 (.t 45) (.t 44), none, 3, []⟩]))))
 (.seq
 (.many 0 ([⟨some 46, .mov (.t 4), none, 0, []⟩] ++
 (⟨some 47, .callF 42 [(.t 46), (.c (.int .i64 1))], none, 1, []⟩ ::
 ([⟨some 48, .bin .eql (.t 47) (.c (.int .i64 1)), none, 2, []⟩,
 ⟨some 49, .faddr 3 (.t 8), none, 3, []⟩,
 ⟨none, .store 1 (.t 49) (.t 48), none, 4, []⟩]))))
 (.seq
 (.many 0 ([⟨some 50, .mov (.t 4), none, 0, []⟩] ++
 (⟨some 51, .callF 40 [(.t 50)], none, 1, []⟩ ::
 ([⟨some 52, .faddr 2 (.t 8), none, 2, []⟩,
 ⟨none, .store 1 (.t 52) (.t 51), none, 3, []⟩]))))
 (.region 7 ([⟨some 53, .faddr 4 (.t 5), none, 0, []⟩,
 ⟨some 54, .load1 (.t 53), none, 1, []⟩,
 ⟨some 55, .loadN 4 (.t 8), none, 2, []⟩,
 ⟨some 56, .buildSlice 85 1 [(.int .i64 0), (.int .i64 0), (.string ⟨⟨[]⟩⟩), (.bool false)] [(0, 4, (.t 55))], none, 3, []⟩,
 ⟨some 57, .append 85 4 40 (.t 54) (.t 56), none, 4, []⟩,
 ⟨some 58, .faddr 4 (.t 5), none, 5, []⟩,
 ⟨none, .store 1 (.t 58) (.t 57), none, 6, []⟩])))))))
 (.region 0 ([⟨some 38, .mov (.t 7), none, 0, []⟩,
 ⟨some 39, .bin .add (.t 38) (.c (.int .i64 1)), none, 1, []⟩,
 ⟨some 7, .mov (.t 39), none, 2, []⟩]))))
def client_GetReply : CFunc := ⟨66,
 (.seq
 (.region 2 ([⟨some 2, .alloc 40 [(.int .i64 0), (.int .i64 0), (.string ⟨⟨[]⟩⟩), (.slice none 0 0), (.slice none 0 0)], none, 0, []⟩,
 ⟨some 3, .mov (.c (.int .i64 0)), none, 1, []⟩]))
 (.seq
 (.region 4 ([⟨some 10, .mov (.t 0), none, 0, []⟩,
 ⟨some 11, .build [(.slice none 0 0), (.int .i64 0), (.int .i64 0)] [(0, 1, (.t 10))], none, 1, []⟩,
 ⟨some 12, .box 75 (.t 11), none, 2, []⟩,
 ⟨some 4, .mov (.t 12), none, 3, []⟩]))
 (.seq
 (.many 5 ([⟨some 13, .mov (.t 4), none, 0, []⟩] ++
 (⟨some 14, .callF 55 [(.t 13), (.c (.int .i64 2))], none, 1, []⟩ ::
 ([⟨some 15, .build [(.int .i64 0), (.int .i64 0), (.string ⟨⟨[]⟩⟩), (.slice none 0 0), (.slice none 0 0)] [(0, 1, (.t 14))], none, 2, []⟩,
 ⟨some 5, .alloc 40 [(.int .i64 0), (.int .i64 0), (.string ⟨⟨[]⟩⟩), (.slice none 0 0), (.slice none 0 0)], none, 3, []⟩,
 ⟨none, .store 5 (.t 5) (.t 15), none, 4, []⟩]))))
 (.seq
 (.many 0 ([⟨some 16, .mov (.t 4), none, 0, []⟩] ++
 (⟨some 17, .callF 41 [(.t 16)], none, 1, []⟩ ::
 ([⟨some 18, .faddr 1 (.t 5), none, 2, []⟩,
 ⟨none, .store 1 (.t 18) (.t 17), none, 3, []⟩]))))
 (.seq
 (.many 0 ([⟨some 19, .mov (.t 4), none, 0, []⟩] ++
 (⟨some 20, .callF 44 [(.t 19), (.c (.int .i64 65535))], none, 1, []⟩ ::
 ([⟨some 21, .convBS (.t 20), none, 2, []⟩,
 ⟨some 22, .faddr 2 (.t 5), none, 3, []⟩,
 ⟨none, .store 1 (.t 22) (.t 21), none, 4, []⟩]))))
 (.seq
 (.many 0 ([⟨some 23, .mov (.t 4), none, 0, []⟩] ++
 (⟨some 24, .callF 44 [(.t 23), (.c (.int .i64 300))], none, 1, []⟩ ::
 ([⟨some 25, .faddr 3 (.t 5), none, 2, []⟩,
 ⟨none, .store 1 (.t 25) (.t 24), none, 3, []⟩]))))
 (.seq
 (.many 0 ([⟨some 26, .mov (.t 4), none, 0, []⟩] ++
 (⟨some 27, .callF 42 [(.t 26), (.c (.int .i64 20))], none, 1, []⟩ ::
 ([⟨some 6, .mov (.t 27), none, 2, []⟩]))))
 (.seq
 (.seq
 (.region 0 ([⟨some 7, .mov (.c (.int .i64 0)), none, 0, []⟩]))
 (.block 0
 (.loop client_GetReply_l0)))
 (.seq
 (.seq
 (.many 0 ([⟨some 59, .mov (.t 4), none, 0, []⟩] ++
 (⟨some 60, .callF 45 [(.t 59)], none, 1, []⟩ ::
 ([⟨some 9, .mov (.t 60), none, 2, []⟩]))))
 (.seq
 (.region 0 ([⟨some 61, .mov (.t 9), none, 0, []⟩,
 ⟨some 62, .bin .neq (.t 61) (.c (.int .i64 0)), none, 1, []⟩]))
 (.cond (.t 62)
 (.seq
 (.region 0 ([⟨some 63, .build [(.int .i64 0), (.int .i64 0), (.string ⟨⟨[]⟩⟩), (.slice none 0 0), (.slice none 0 0)] [], none, 0, []⟩,
 ⟨some 64, .mov (.t 9), none, 1, []⟩,
 ⟨none, .store 5 (.t 2) (.t 63), none, 2, []⟩,
 ⟨some 3, .mov (.t 64), none, 3, []⟩]))
 (.ret))
 (.skip))))
 (.seq
 (.region 0 ([⟨some 65, .loadN 5 (.t 5), none, 0, []⟩,
 ⟨none, .store 5 (.t 2) (.t 65), none, 1, []⟩,
 ⟨some 3, .mov (.c (.int .i64 0)), none, 2, []⟩]))
 (.ret))))))))))),
 [.cell 2 true 5, .tmp 3]⟩
def tithingref25_Same : CFunc := ⟨40,
 (.seq
 (.region 3 ([⟨some 2, .box 40 (.t 0), none, 0, []⟩,
 ⟨some 3, .box 40 (.t 1), none, 1, []⟩,
 ⟨some 4, .mov (.c (.bool false)), none, 2, []⟩]))
 (.seq
 (.many 0 ([⟨some 5, .faddr 0 (.t 2), none, 0, []⟩,
 ⟨some 6, .load1 (.t 5), none, 1, []⟩,
 ⟨some 7, .faddr 0 (.t 3), none, 2, []⟩,
 ⟨some 8, .load1 (.t 7), none, 3, []⟩,
 ⟨some 9, .bin .eql (.t 6) (.t 8), none, 4, []⟩,
 ⟨some 10, .mov (.t 9), none, 5, []⟩,
 ⟨some 11, .faddr 1 (.t 2), some (some 10, true), 6, []⟩,
 ⟨some 12, .load1 (.t 11), some (some 10, true), 7, []⟩,
 ⟨some 13, .faddr 1 (.t 3), some (some 10, true), 8, []⟩,
 ⟨some 14, .load1 (.t 13), some (some 10, true), 9, []⟩,
 ⟨some 15, .bin .eql (.t 12) (.t 14), some (some 10, true), 10, []⟩,
 ⟨some 16, .pick (.t 10) (.t 15) (.c (.bool false)), none, 11, []⟩,
 ⟨some 17, .mov (.t 16), none, 12, []⟩,
 ⟨some 18, .faddr 2 (.t 2), some (some 17, true), 13, []⟩,
 ⟨some 19, .load1 (.t 18), some (some 17, true), 14, []⟩,
 ⟨some 20, .faddr 2 (.t 3), some (some 17, true), 15, []⟩,
 ⟨some 21, .load1 (.t 20), some (some 17, true), 16, []⟩,
 ⟨some 22, .bin .eql (.t 19) (.t 21), some (some 17, true), 17, []⟩,
 ⟨some 23, .pick (.t 17) (.t 22) (.c (.bool false)), none, 18, []⟩,
 ⟨some 24, .mov (.t 23), none, 19, []⟩,
 ⟨some 25, .faddr 3 (.t 2), some (some 24, true), 20, []⟩,
 ⟨some 26, .load1 (.t 25), some (some 24, true), 21, []⟩,
 ⟨some 27, .convBS (.t 26), some (some 24, true), 22, []⟩,
 ⟨some 28, .faddr 3 (.t 3), some (some 24, true), 23, []⟩,
 ⟨some 29, .load1 (.t 28), some (some 24, true), 24, []⟩,
 ⟨some 30, .convBS (.t 29), some (some 24, true), 25, []⟩,
 ⟨some 31, .bin .eql (.t 27) (.t 30), some (some 24, true), 26, []⟩,
 ⟨some 32, .pick (.t 24) (.t 31) (.c (.bool false)), none, 27, []⟩,
 ⟨some 33, .mov (.t 32), none, 28, []⟩,
 ⟨some 34, .faddr 4 (.t 2), some (some 33, true), 29, []⟩,
 ⟨some 35, .load1 (.t 34), some (some 33, true), 30, []⟩,
 ⟨some 36, .faddr 4 (.t 3), some (some 33, true), 31, []⟩,
 ⟨some 37, .load1 (.t 36), some (some 33, true), 32, []⟩] ++
 (⟨some 38, .callF 56 [(.t 35), (.t 37)], some (some 33, true), 33, []⟩ ::
 ([⟨some 39, .pick (.t 33) (.t 38) (.c (.bool false)), none, 34, []⟩,
 ⟨some 4, .mov (.t 39), none, 35, []⟩]))))
 (.ret))),
 [.tmp 4]⟩
def server_PutRights : CFunc := ⟨49,
 (.seq
 (.region 3 ([⟨some 1, .box 25 (.t 0), none, 0, []⟩,
 ⟨some 2, .mov (.c (.slice none 0 0)), none, 1, []⟩,
 ⟨some 3, .mov (.c (.int .i64 0)), none, 2, []⟩]))
 (.seq
 (.many 0 ([⟨some 10, .faddr 0 (.t 1), none, 0, []⟩,
 ⟨some 11, .load1 (.t 10), none, 1, []⟩] ++
 (⟨some 12, .callF 53 [(.c (.int .i64 4)), (.t 11)], none, 2, []⟩ ::
 ([⟨some 9, .mov (.t 12), none, 3, []⟩,
 ⟨some 13, .extract (.t 9) 0, none, 4, []⟩,
 ⟨some 14, .extract (.t 9) 1, none, 5, []⟩,
 ⟨some 4, .mov (.t 13), none, 6, []⟩,
 ⟨some 5, .mov (.t 14), none, 7, []⟩]))))
 (.seq
 (.many 0 ([⟨some 16, .faddr 1 (.t 1), none, 0, []⟩,
 ⟨some 17, .load1 (.t 16), none, 1, []⟩] ++
 (⟨some 18, .callF 53 [(.c (.int .i64 4)), (.t 17)], none, 2, []⟩ ::
 ([⟨some 15, .mov (.t 18), none, 3, []⟩,
 ⟨some 19, .extract (.t 15) 0, none, 4, []⟩,
 ⟨some 20, .extract (.t 15) 1, none, 5, []⟩,
 ⟨some 6, .mov (.t 19), none, 6, []⟩,
 ⟨some 7, .mov (.t 20), none, 7, []⟩]))))
 (.seq
 (.seq
 (.many 0 ([⟨some 21, .loadN 6 (.t 1), none, 0, []⟩] ++
 (⟨some 22, .callF 78 [(.t 21)], none, 1, []⟩ ::
 ([⟨some 23, .un .not (.t 22), none, 2, []⟩,
 ⟨some 24, .mov (.t 23), none, 3, []⟩,
 ⟨some 25, .mov (.t 5), some (some 24, false), 4, []⟩,
 ⟨some 26, .bin .neq (.t 25) (.c (.int .i64 0)), some (some 24, false), 5, []⟩,
 ⟨some 27, .pick (.t 24) (.c (.bool true)) (.t 26), none, 6, []⟩,
 ⟨some 28, .mov (.t 27), none, 7, []⟩,
 ⟨some 29, .mov (.t 7), some (some 28, false), 8, []⟩,
 ⟨some 30, .bin .neq (.t 29) (.c (.int .i64 0)), some (some 28, false), 9, []⟩,
 ⟨some 31, .pick (.t 28) (.c (.bool true)) (.t 30), none, 10, []⟩]))))
 (.cond (.t 31)
 (.seq
 (.region 0 ([⟨some 2, .mov (.c (.slice none 0 0)), none, 0, []⟩,
 ⟨some 3, .mov (.c (.int .i64 2)), none, 1, []⟩]))
 (.ret))
 (.skip)))
 (.seq
 (.region 0 ([⟨some 8, .mov (.c (.int .u8 0)), none, 0, []⟩]))
 (.seq
 (.seq
 (.region 0 ([⟨some 32, .faddr 5 (.t 1), none, 0, []⟩,
 ⟨some 33, .load1 (.t 32), none, 1, []⟩]))
 (.cond (.t 33)
 (.region 0 ([⟨some 8, .mov (.c (.int .u8 1)), none, 0, []⟩]))
 (.skip)))
 (.seq
 (.many 17 ([⟨some 34, .mov (.t 4), none, 0, []⟩,
 ⟨some 35, .mov (.t 6), none, 1, []⟩,
 ⟨some 36, .faddr 2 (.t 1), none, 2, []⟩,
 ⟨some 37, .load1 (.t 36), none, 3, []⟩,
 ⟨some 38, .convI .u8 (.t 37), none, 4, []⟩,
 ⟨some 39, .faddr 3 (.t 1), none, 5, []⟩,
 ⟨some 40, .load1 (.t 39), none, 6, []⟩,
 ⟨some 41, .convI .u8 (.t 40), none, 7, []⟩,
 ⟨some 42, .faddr 4 (.t 1), none, 8, []⟩,
 ⟨some 43, .load1 (.t 42), none, 9, []⟩,
 ⟨some 44, .convI .u8 (.t 43), none, 10, []⟩,
 ⟨some 45, .mov (.t 8), none, 11, []⟩,
 ⟨some 46, .buildSlice 5 4 [(.int .u8 0), (.int .u8 0), (.int .u8 0), (.int .u8 0)] [(0, 1, (.t 38)), (1, 1, (.t 41)), (2, 1, (.t 44)), (3, 1, (.t 45))], none, 12, []⟩,
 ⟨some 47, .buildSlice 26 3 [(.slice none 0 0), (.slice none 0 0), (.slice none 0 0)] [(0, 1, (.t 34)), (1, 1, (.t 35)), (2, 1, (.t 46))], none, 13, []⟩] ++
 (⟨some 48, .callF 32 [(.t 47)], none, 14, []⟩ ::
 ([⟨some 2, .mov (.t 48), none, 15, []⟩,
 ⟨some 3, .mov (.c (.int .i64 0)), none, 16, []⟩]))))
 (.ret)))))))),
 [.tmp 2, .tmp 3]⟩
def slices_ContainsFunc_int_int : CFunc := ⟨9,
 (.seq
 (.region 0 ([⟨some 4, .mov (.c (.bool false)), none, 0, []⟩]))
 (.seq
 (.many 0 ([⟨some 5, .mov (.t 0), none, 0, []⟩,
 ⟨some 6, .mov (.t 1), none, 1, []⟩] ++
 (⟨some 7, .callF 79 [(.t 5), (.t 6)], none, 2, []⟩ ::
 ([⟨some 8, .bin .geq (.t 7) (.c (.int .i64 0)), none, 3, []⟩,
 ⟨some 4, .mov (.t 8), none, 4, []⟩]))))
 (.ret))),
 [.tmp 4]⟩
def client_PutCall_1 : CFunc := ⟨6,
 (.seq
 (.region 0 ([⟨some 2, .mov (.c (.bool false)), none, 0, []⟩]))
 (.seq
 (.many 0 ([⟨some 3, .mov (.t 0), none, 0, []⟩] ++
 (⟨some 4, .callF 29 [(.t 3)], none, 1, []⟩ ::
 ([⟨some 5, .un .not (.t 4), none, 2, []⟩,
 ⟨some 2, .mov (.t 5), none, 3, []⟩]))))
 (.ret))),
 [.tmp 2]⟩
def client_isNumber : CFunc := ⟨9,
 (.seq
 (.region 0 ([⟨some 2, .mov (.c (.bool false)), none, 0, []⟩]))
 (.seq
 (.region 0 ([⟨some 3, .mov (.t 0), none, 0, []⟩,
 ⟨some 4, .bin .geq (.t 3) (.c (.int .i64 (-2147483648))), none, 1, []⟩,
 ⟨some 5, .mov (.t 4), none, 2, []⟩,
 ⟨some 6, .mov (.t 0), some (some 5, true), 3, []⟩,
 ⟨some 7, .bin .lss (.t 6) (.c (.int .i64 2147483648)), some (some 5, true), 4, []⟩,
 ⟨some 8, .pick (.t 5) (.t 7) (.c (.bool false)), none, 5, []⟩,
 ⟨some 2, .mov (.t 8), none, 6, []⟩]))
 (.ret))),
 [.tmp 2]⟩
def client_counted : CFunc := ⟨11,
 (.seq
 (.region 0 ([⟨some 2, .mov (.c (.slice none 0 0)), none, 0, []⟩]))
 (.seq
 (.many 0 ([⟨some 6, .mov (.t 0), none, 0, []⟩] ++
 (⟨some 7, .callF 80 [(.t 6)], none, 1, []⟩ ::
 ([⟨some 5, .mov (.t 7), none, 2, []⟩,
 ⟨some 8, .extract (.t 5) 0, none, 3, []⟩,
 ⟨some 9, .extract (.t 5) 1, none, 4, []⟩,
 ⟨some 3, .mov (.t 8), none, 5, []⟩,
 ⟨some 4, .mov (.t 9), none, 6, []⟩]))))
 (.seq
 (.region 0 ([⟨some 10, .mov (.t 3), none, 0, []⟩,
 ⟨some 2, .mov (.t 10), none, 1, []⟩]))
 (.ret)))),
 [.tmp 2]⟩
def client_number : CFunc := ⟨12,
 (.seq
 (.region 0 ([⟨some 2, .mov (.c (.slice none 0 0)), none, 0, []⟩]))
 (.seq
 (.many 0 ([⟨some 6, .mov (.t 0), none, 0, []⟩,
 ⟨some 7, .bin .add (.t 6) (.c (.int .i64 2147483648)), none, 1, []⟩] ++
 (⟨some 8, .callF 53 [(.c (.int .i64 4)), (.t 7)], none, 2, []⟩ ::
 ([⟨some 5, .mov (.t 8), none, 3, []⟩,
 ⟨some 9, .extract (.t 5) 0, none, 4, []⟩,
 ⟨some 10, .extract (.t 5) 1, none, 5, []⟩,
 ⟨some 3, .mov (.t 9), none, 6, []⟩,
 ⟨some 4, .mov (.t 10), none, 7, []⟩]))))
 (.seq
 (.region 0 ([⟨some 11, .mov (.t 3), none, 0, []⟩,
 ⟨some 2, .mov (.t 11), none, 1, []⟩]))
 (.ret)))),
 [.tmp 2]⟩
def slices_Concat_byte_byte_l0 : CCode :=
 (.seq
 (.region 0 ([⟨some 12, .bin .lss (.t 11) (.t 10), none, 0, []⟩]))
 (.seq
 (.cond (.t 12)
 (.skip)
 (.exit 0))
 (.seq
 (.block 1
 (.seq
 (.region 0 ([⟨some 13, .iaddrV 1 (.t 9) (.t 11), none, 0, []⟩,
 ⟨some 14, .load1 (.t 13), none, 1, []⟩,
 ⟨some 5, .mov (.t 14), none, 2, []⟩]))
 (.seq
 (.region 0 ([⟨some 15, .mov (.t 3), none, 0, []⟩,
 ⟨some 16, .mov (.t 5), none, 1, []⟩,
 ⟨some 17, .lenV (.t 16), none, 2, []⟩,
 ⟨some 18, .bin .add (.t 15) (.t 17), none, 3, []⟩,
 ⟨some 3, .mov (.t 18), none, 4, []⟩]))
 (.seq
 (.region 0 ([⟨some 19, .mov (.t 3), none, 0, []⟩,
 ⟨some 20, .bin .lss (.t 19) (.c (.int .i64 0)), none, 1, []⟩]))
 (.cond (.t 20)
 (.no)
 (.skip))))))
 (.region 0 ([⟨some 22, .bin .add (.t 11) (.c (.int .i64 1)), none, 0, []⟩,
 ⟨some 11, .mov (.t 22), none, 1, []⟩])))))
def slices_Concat_byte_byte_l1 : CCode :=
 (.seq
 (.region 0 ([⟨some 28, .bin .lss (.t 27) (.t 26), none, 0, []⟩]))
 (.seq
 (.cond (.t 28)
 (.skip)
 (.exit 2))
 (.seq
 (.block 3
 (.seq
 (.region 0 ([⟨some 29, .iaddrV 1 (.t 25) (.t 27), none, 0, []⟩,
 ⟨some 30, .load1 (.t 29), none, 1, []⟩,
 ⟨some 8, .mov (.t 30), none, 2, []⟩]))
 (.region 0 ([⟨some 31, .mov (.t 6), none, 0, []⟩,
 ⟨some 32, .mov (.t 8), none, 1, []⟩,
 ⟨some 33, .append 5 1 1 (.t 31) (.t 32), none, 2, []⟩,
 ⟨some 6, .mov (.t 33), none, 3, []⟩]))))
 (.region 0 ([⟨some 34, .bin .add (.t 27) (.c (.int .i64 1)), none, 0, []⟩,
 ⟨some 27, .mov (.t 34), none, 1, []⟩])))))
def slices_Concat_byte_byte : CFunc := ⟨36,
 (.seq
 (.region 0 ([⟨some 2, .mov (.c (.slice none 0 0)), none, 0, []⟩]))
 (.seq
 (.region 0 ([⟨some 3, .mov (.c (.int .i64 0)), none, 0, []⟩]))
 (.seq
 (.seq
 (.region 0 ([⟨some 9, .mov (.t 0), none, 0, []⟩,
 ⟨some 10, .lenV (.t 9), none, 1, []⟩,
 ⟨some 11, .mov (.c (.int .i64 0)), none, 2, []⟩]))
 (.block 0
 (.loop slices_Concat_byte_byte_l0)))
 (.seq
 (.many 0 ([⟨some 23, .mov (.t 3), none, 0, []⟩] ++
 (⟨some 24, .callF 81 [(.c (.slice none 0 0)), (.t 23)], none, 1, []⟩ ::
 ([⟨some 6, .mov (.t 24), none, 2, []⟩]))))
 (.seq
 (.seq
 (.region 0 ([⟨some 25, .mov (.t 0), none, 0, []⟩,
 ⟨some 26, .lenV (.t 25), none, 1, []⟩,
 ⟨some 27, .mov (.c (.int .i64 0)), none, 2, []⟩]))
 (.block 2
 (.loop slices_Concat_byte_byte_l1)))
 (.seq
 (.region 0 ([⟨some 35, .mov (.t 6), none, 0, []⟩,
 ⟨some 2, .mov (.t 35), none, 1, []⟩]))
 (.ret))))))),
 [.tmp 2]⟩
def client_modeByte_l0 : CCode :=
 (.seq
 (.region 0 ([⟨some 17, .bin .lss (.t 16) (.t 15), none, 0, []⟩]))
 (.seq
 (.cond (.t 17)
 (.skip)
 (.exit 0))
 (.seq
 (.block 1
 (.seq
 (.region 0 ([⟨some 18, .mov (.t 16), none, 0, []⟩,
 ⟨some 19, .iaddrV 1 (.t 14) (.t 16), none, 1, []⟩,
 ⟨some 20, .load1 (.t 19), none, 2, []⟩,
 ⟨some 4, .mov (.t 18), none, 3, []⟩,
 ⟨some 5, .mov (.t 20), none, 4, []⟩]))
 (.seq
 (.region 0 ([⟨some 21, .mov (.t 5), none, 0, []⟩]))
 (.cond (.t 21)
 (.region 0 ([⟨some 22, .mov (.t 3), none, 0, []⟩,
 ⟨some 23, .mov (.t 4), none, 1, []⟩,
 ⟨some 24, .bin .shl (.c (.int .u8 1)) (.t 23), none, 2, []⟩,
 ⟨some 25, .bin .or (.t 22) (.t 24), none, 3, []⟩,
 ⟨some 3, .mov (.t 25), none, 4, []⟩]))
 (.skip)))))
 (.region 0 ([⟨some 26, .bin .add (.t 16) (.c (.int .i64 1)), none, 0, []⟩,
 ⟨some 16, .mov (.t 26), none, 1, []⟩])))))
def client_modeByte : CFunc := ⟨28,
 (.seq
 (.region 2 ([⟨some 1, .box 23 (.t 0), none, 0, []⟩,
 ⟨some 2, .mov (.c (.int .u8 0)), none, 1, []⟩]))
 (.seq
 (.region 0 ([⟨some 3, .mov (.c (.int .u8 0)), none, 0, []⟩]))
 (.seq
 (.seq
 (.region 11 ([⟨some 6, .faddr 0 (.t 1), none, 0, []⟩,
 ⟨some 7, .load1 (.t 6), none, 1, []⟩,
 ⟨some 8, .faddr 1 (.t 1), none, 2, []⟩,
 ⟨some 9, .load1 (.t 8), none, 3, []⟩,
 ⟨some 10, .faddr 2 (.t 1), none, 4, []⟩,
 ⟨some 11, .load1 (.t 10), none, 5, []⟩,
 ⟨some 12, .faddr 3 (.t 1), none, 6, []⟩,
 ⟨some 13, .load1 (.t 12), none, 7, []⟩,
 ⟨some 14, .buildSlice 4 4 [(.bool false), (.bool false), (.bool false), (.bool false)] [(0, 1, (.t 7)), (1, 1, (.t 9)), (2, 1, (.t 11)), (3, 1, (.t 13))], none, 8, []⟩,
 ⟨some 15, .lenV (.t 14), none, 9, []⟩,
 ⟨some 16, .mov (.c (.int .i64 0)), none, 10, []⟩]))
 (.block 0
 (.loop client_modeByte_l0)))
 (.seq
 (.region 0 ([⟨some 27, .mov (.t 3), none, 0, []⟩,
 ⟨some 2, .mov (.t 27), none, 1, []⟩]))
 (.ret))))),
 [.tmp 2]⟩
def client_long : CFunc := ⟨14,
 (.seq
 (.region 0 ([⟨some 2, .mov (.c (.slice none 0 0)), none, 0, []⟩]))
 (.seq
 (.many 0 ([⟨some 6, .mov (.t 0), none, 0, []⟩,
 ⟨some 7, .lenV (.t 6), none, 1, []⟩] ++
 (⟨some 8, .callF 53 [(.c (.int .i64 2)), (.t 7)], none, 2, []⟩ ::
 ([⟨some 5, .mov (.t 8), none, 3, []⟩,
 ⟨some 9, .extract (.t 5) 0, none, 4, []⟩,
 ⟨some 10, .extract (.t 5) 1, none, 5, []⟩,
 ⟨some 3, .mov (.t 9), none, 6, []⟩,
 ⟨some 4, .mov (.t 10), none, 7, []⟩]))))
 (.seq
 (.region 0 ([⟨some 11, .mov (.t 3), none, 0, []⟩,
 ⟨some 12, .mov (.t 0), none, 1, []⟩,
 ⟨some 13, .append 5 1 1 (.t 11) (.t 12), none, 2, []⟩,
 ⟨some 2, .mov (.t 13), none, 3, []⟩]))
 (.ret)))),
 [.tmp 2]⟩
def _tithing_client_reader_text : CFunc := ⟨14,
 (.seq
 (.region 0 ([⟨some 2, .mov (.c (.string ⟨⟨[]⟩⟩)), none, 0, []⟩]))
 (.seq
 (.many 0 ([⟨some 4, .mov (.t 0), none, 0, []⟩] ++
 (⟨some 5, .callF 55 [(.t 4), (.c (.int .i64 1))], none, 1, []⟩ ::
 ([⟨some 3, .mov (.t 5), none, 2, []⟩]))))
 (.seq
 (.seq
 (.region 0 ([⟨some 6, .mov (.t 3), none, 0, []⟩,
 ⟨some 7, .bin .gtr (.t 6) (.c (.int .i64 31)), none, 1, []⟩]))
 (.cond (.t 7)
 (.seq
 (.many 0 ([⟨some 8, .mov (.t 0), none, 0, []⟩] ++
 (⟨some 9, .callF 84 [(.t 8)], none, 1, []⟩ ::
 ([]))))
 (.seq
 (.region 0 ([⟨some 2, .mov (.c (.string ⟨⟨[]⟩⟩)), none, 0, []⟩]))
 (.ret)))
 (.skip)))
 (.seq
 (.many 0 ([⟨some 10, .mov (.t 0), none, 0, []⟩,
 ⟨some 11, .mov (.t 3), none, 1, []⟩] ++
 (⟨some 12, .callF 85 [(.t 10), (.t 11)], none, 2, []⟩ ::
 ([⟨some 13, .convBS (.t 12), none, 3, []⟩,
 ⟨some 2, .mov (.t 13), none, 4, []⟩]))))
 (.ret))))),
 [.tmp 2]⟩
def _tithing_client_reader_number : CFunc := ⟨6,
 (.seq
 (.region 0 ([⟨some 2, .mov (.c (.int .i64 0)), none, 0, []⟩]))
 (.seq
 (.many 0 ([⟨some 3, .mov (.t 0), none, 0, []⟩] ++
 (⟨some 4, .callF 55 [(.t 3), (.c (.int .i64 4))], none, 1, []⟩ ::
 ([⟨some 5, .bin .sub (.t 4) (.c (.int .i64 2147483648)), none, 2, []⟩,
 ⟨some 2, .mov (.t 5), none, 3, []⟩]))))
 (.ret))),
 [.tmp 2]⟩
def _tithing_client_reader_most : CFunc := ⟨14,
 (.seq
 (.region 0 ([⟨some 4, .mov (.c (.int .i64 0)), none, 0, []⟩]))
 (.seq
 (.many 0 ([⟨some 6, .mov (.t 0), none, 0, []⟩] ++
 (⟨some 7, .callF 55 [(.t 6), (.c (.int .i64 1))], none, 1, []⟩ ::
 ([⟨some 5, .mov (.t 7), none, 2, []⟩]))))
 (.seq
 (.seq
 (.region 0 ([⟨some 8, .mov (.t 5), none, 0, []⟩,
 ⟨some 9, .mov (.t 1), none, 1, []⟩,
 ⟨some 10, .bin .gtr (.t 8) (.t 9), none, 2, []⟩]))
 (.cond (.t 10)
 (.many 0 ([⟨some 11, .mov (.t 0), none, 0, []⟩] ++
 (⟨some 12, .callF 84 [(.t 11)], none, 1, []⟩ ::
 ([]))))
 (.skip)))
 (.seq
 (.region 0 ([⟨some 13, .mov (.t 5), none, 0, []⟩,
 ⟨some 4, .mov (.t 13), none, 1, []⟩]))
 (.ret))))),
 [.tmp 4]⟩
def _tithing_client_reader_rights : CFunc := ⟨36,
 (.seq
 (.region 1 ([⟨some 2, .alloc 25 [(.int .i64 0), (.int .i64 0), (.int .i64 0), (.int .i64 0), (.int .i64 0), (.bool false)], none, 0, []⟩]))
 (.seq
 (.region 1 ([⟨some 3, .alloc 25 [(.int .i64 0), (.int .i64 0), (.int .i64 0), (.int .i64 0), (.int .i64 0), (.bool false)], none, 0, []⟩]))
 (.seq
 (.many 0 ([⟨some 4, .mov (.t 0), none, 0, []⟩] ++
 (⟨some 5, .callF 55 [(.t 4), (.c (.int .i64 4))], none, 1, []⟩ ::
 ([⟨some 6, .faddr 0 (.t 3), none, 2, []⟩,
 ⟨none, .store 1 (.t 6) (.t 5), none, 3, []⟩]))))
 (.seq
 (.many 0 ([⟨some 7, .mov (.t 0), none, 0, []⟩] ++
 (⟨some 8, .callF 55 [(.t 7), (.c (.int .i64 4))], none, 1, []⟩ ::
 ([⟨some 9, .faddr 1 (.t 3), none, 2, []⟩,
 ⟨none, .store 1 (.t 9) (.t 8), none, 3, []⟩]))))
 (.seq
 (.many 0 ([⟨some 10, .mov (.t 0), none, 0, []⟩] ++
 (⟨some 11, .callF 42 [(.t 10), (.c (.int .i64 7))], none, 1, []⟩ ::
 ([⟨some 12, .faddr 2 (.t 3), none, 2, []⟩,
 ⟨none, .store 1 (.t 12) (.t 11), none, 3, []⟩]))))
 (.seq
 (.many 0 ([⟨some 13, .mov (.t 0), none, 0, []⟩] ++
 (⟨some 14, .callF 42 [(.t 13), (.c (.int .i64 7))], none, 1, []⟩ ::
 ([⟨some 15, .faddr 3 (.t 3), none, 2, []⟩,
 ⟨none, .store 1 (.t 15) (.t 14), none, 3, []⟩]))))
 (.seq
 (.many 0 ([⟨some 16, .mov (.t 0), none, 0, []⟩] ++
 (⟨some 17, .callF 42 [(.t 16), (.c (.int .i64 7))], none, 1, []⟩ ::
 ([⟨some 18, .faddr 4 (.t 3), none, 2, []⟩,
 ⟨none, .store 1 (.t 18) (.t 17), none, 3, []⟩]))))
 (.seq
 (.many 0 ([⟨some 19, .mov (.t 0), none, 0, []⟩] ++
 (⟨some 20, .callF 42 [(.t 19), (.c (.int .i64 1))], none, 1, []⟩ ::
 ([⟨some 21, .bin .eql (.t 20) (.c (.int .i64 1)), none, 2, []⟩,
 ⟨some 22, .faddr 5 (.t 3), none, 3, []⟩,
 ⟨none, .store 1 (.t 22) (.t 21), none, 4, []⟩]))))
 (.seq
 (.seq
 (.many 0 ([⟨some 23, .mov (.t 0), none, 0, []⟩,
 ⟨some 24, .nilCheck (.t 23), none, 1, []⟩,
 ⟨some 25, .faddr 2 (.t 24), none, 2, []⟩,
 ⟨some 26, .load1 (.t 25), none, 3, []⟩,
 ⟨some 27, .bin .eql (.t 26) (.c (.int .i64 0)), none, 4, []⟩,
 ⟨some 28, .mov (.t 27), none, 5, []⟩,
 ⟨some 29, .loadN 6 (.t 3), some (some 28, true), 6, []⟩] ++
 (⟨some 30, .callF 78 [(.t 29)], some (some 28, true), 7, []⟩ ::
 ([⟨some 31, .un .not (.t 30), some (some 28, true), 8, []⟩,
 ⟨some 32, .pick (.t 28) (.t 31) (.c (.bool false)), none, 9, []⟩]))))
 (.cond (.t 32)
 (.many 0 ([⟨some 33, .mov (.t 0), none, 0, []⟩] ++
 (⟨some 34, .callF 84 [(.t 33)], none, 1, []⟩ ::
 ([]))))
 (.skip)))
 (.seq
 (.region 0 ([⟨some 35, .loadN 6 (.t 3), none, 0, []⟩,
 ⟨none, .store 6 (.t 2) (.t 35), none, 1, []⟩]))
 (.ret))))))))))),
 [.cell 2 true 6]⟩
def _tithing_client_reader_long : CFunc := ⟨17,
 (.seq
 (.region 0 ([⟨some 4, .mov (.c (.slice none 0 0)), none, 0, []⟩]))
 (.seq
 (.many 0 ([⟨some 6, .mov (.t 0), none, 0, []⟩] ++
 (⟨some 7, .callF 55 [(.t 6), (.c (.int .i64 2))], none, 1, []⟩ ::
 ([⟨some 5, .mov (.t 7), none, 2, []⟩]))))
 (.seq
 (.seq
 (.region 0 ([⟨some 8, .mov (.t 5), none, 0, []⟩,
 ⟨some 9, .mov (.t 1), none, 1, []⟩,
 ⟨some 10, .bin .gtr (.t 8) (.t 9), none, 2, []⟩]))
 (.cond (.t 10)
 (.seq
 (.many 0 ([⟨some 11, .mov (.t 0), none, 0, []⟩] ++
 (⟨some 12, .callF 84 [(.t 11)], none, 1, []⟩ ::
 ([]))))
 (.seq
 (.region 0 ([⟨some 4, .mov (.c (.slice none 0 0)), none, 0, []⟩]))
 (.ret)))
 (.skip)))
 (.seq
 (.many 0 ([⟨some 13, .mov (.t 0), none, 0, []⟩,
 ⟨some 14, .mov (.t 5), none, 1, []⟩] ++
 (⟨some 15, .callF 85 [(.t 13), (.t 14)], none, 2, []⟩ ::
 (⟨some 16, .callF 76 [(.t 15)], none, 3, []⟩ ::
 ([⟨some 4, .mov (.t 16), none, 4, []⟩])))))
 (.ret))))),
 [.tmp 4]⟩
def _tithing_client_reader_end : CFunc := ⟨19,
 (.seq
 (.region 0 ([⟨some 2, .mov (.c (.int .i64 0)), none, 0, []⟩]))
 (.seq
 (.seq
 (.region 0 ([⟨some 3, .mov (.t 0), none, 0, []⟩,
 ⟨some 4, .nilCheck (.t 3), none, 1, []⟩,
 ⟨some 5, .faddr 1 (.t 4), none, 2, []⟩,
 ⟨some 6, .load1 (.t 5), none, 3, []⟩,
 ⟨some 7, .mov (.t 0), none, 4, []⟩,
 ⟨some 8, .nilCheck (.t 7), none, 5, []⟩,
 ⟨some 9, .faddr 0 (.t 8), none, 6, []⟩,
 ⟨some 10, .load1 (.t 9), none, 7, []⟩,
 ⟨some 11, .lenV (.t 10), none, 8, []⟩,
 ⟨some 12, .bin .neq (.t 6) (.t 11), none, 9, []⟩]))
 (.cond (.t 12)
 (.many 0 ([⟨some 13, .mov (.t 0), none, 0, []⟩] ++
 (⟨some 14, .callF 84 [(.t 13)], none, 1, []⟩ ::
 ([]))))
 (.skip)))
 (.seq
 (.region 0 ([⟨some 15, .mov (.t 0), none, 0, []⟩,
 ⟨some 16, .nilCheck (.t 15), none, 1, []⟩,
 ⟨some 17, .faddr 2 (.t 16), none, 2, []⟩,
 ⟨some 18, .load1 (.t 17), none, 3, []⟩,
 ⟨some 2, .mov (.t 18), none, 4, []⟩]))
 (.ret)))),
 [.tmp 2]⟩
def octet_Put_l0 : CCode :=
 (.seq
 (.seq
 (.region 0 ([⟨some 24, .mov (.t 7), none, 0, []⟩,
 ⟨some 25, .bin .geq (.t 24) (.c (.int .i64 0)), none, 1, []⟩]))
 (.cond (.t 25)
 (.skip)
 (.exit 0)))
 (.seq
 (.block 1
 (.region 9 ([⟨some 28, .mov (.t 6), none, 0, []⟩,
 ⟨some 29, .mov (.t 1), none, 1, []⟩,
 ⟨some 30, .mov (.t 7), none, 2, []⟩,
 ⟨some 31, .bin .mul (.c (.int .i64 8)) (.t 30), none, 3, []⟩,
 ⟨some 32, .bin .shr (.t 29) (.t 31), none, 4, []⟩,
 ⟨some 33, .convI .u8 (.t 32), none, 5, []⟩,
 ⟨some 34, .buildSlice 5 1 [(.int .u8 0)] [(0, 1, (.t 33))], none, 6, []⟩,
 ⟨some 35, .append 5 1 1 (.t 28) (.t 34), none, 7, []⟩,
 ⟨some 6, .mov (.t 35), none, 8, []⟩])))
 (.region 0 ([⟨some 26, .mov (.t 7), none, 0, []⟩,
 ⟨some 27, .bin .sub (.t 26) (.c (.int .i64 1)), none, 1, []⟩,
 ⟨some 7, .mov (.t 27), none, 2, []⟩]))))
def octet_Put : CFunc := ⟨37,
 (.seq
 (.region 0 ([⟨some 4, .mov (.c (.slice none 0 0)), none, 0, []⟩,
 ⟨some 5, .mov (.c (.int .i64 0)), none, 1, []⟩]))
 (.seq
 (.seq
 (.many 0 ([⟨some 8, .mov (.t 0), none, 0, []⟩] ++
 (⟨some 9, .callF 88 [(.t 8)], none, 1, []⟩ ::
 ([⟨some 10, .un .not (.t 9), none, 2, []⟩,
 ⟨some 11, .mov (.t 10), none, 3, []⟩,
 ⟨some 12, .mov (.t 1), some (some 11, false), 4, []⟩,
 ⟨some 13, .bin .lss (.t 12) (.c (.int .i64 0)), some (some 11, false), 5, []⟩,
 ⟨some 14, .pick (.t 11) (.c (.bool true)) (.t 13), none, 6, []⟩,
 ⟨some 15, .mov (.t 14), none, 7, []⟩,
 ⟨some 16, .mov (.t 1), some (some 15, false), 8, []⟩,
 ⟨some 17, .mov (.t 0), some (some 15, false), 9, []⟩,
 ⟨some 18, .bin .mul (.c (.int .i64 8)) (.t 17), some (some 15, false), 10, []⟩,
 ⟨some 19, .bin .shl (.c (.int .i64 1)) (.t 18), some (some 15, false), 11, []⟩,
 ⟨some 20, .bin .geq (.t 16) (.t 19), some (some 15, false), 12, []⟩,
 ⟨some 21, .pick (.t 15) (.c (.bool true)) (.t 20), none, 13, []⟩]))))
 (.cond (.t 21)
 (.seq
 (.region 0 ([⟨some 4, .mov (.c (.slice none 0 0)), none, 0, []⟩,
 ⟨some 5, .mov (.c (.int .i64 2)), none, 1, []⟩]))
 (.ret))
 (.skip)))
 (.seq
 (.region 0 ([⟨some 6, .mov (.c (.slice none 0 0)), none, 0, []⟩]))
 (.seq
 (.seq
 (.region 0 ([⟨some 22, .mov (.t 0), none, 0, []⟩,
 ⟨some 23, .bin .sub (.t 22) (.c (.int .i64 1)), none, 1, []⟩,
 ⟨some 7, .mov (.t 23), none, 2, []⟩]))
 (.block 0
 (.loop octet_Put_l0)))
 (.seq
 (.region 0 ([⟨some 36, .mov (.t 6), none, 0, []⟩,
 ⟨some 4, .mov (.t 36), none, 1, []⟩,
 ⟨some 5, .mov (.c (.int .i64 0)), none, 2, []⟩]))
 (.ret)))))),
 [.tmp 4, .tmp 5]⟩
def _tithing_client_reader_fixed : CFunc := ⟨18,
 (.seq
 (.region 0 ([⟨some 4, .mov (.c (.int .i64 0)), none, 0, []⟩]))
 (.seq
 (.many 0 ([⟨some 9, .mov (.t 0), none, 0, []⟩,
 ⟨some 10, .mov (.t 1), none, 1, []⟩] ++
 (⟨some 11, .callF 85 [(.t 9), (.t 10)], none, 2, []⟩ ::
 ([⟨some 12, .mov (.t 1), none, 3, []⟩] ++
 (⟨some 13, .callF 89 [(.t 11), (.c (.int .i64 0)), (.t 12)], none, 4, []⟩ ::
 ([⟨some 8, .mov (.t 13), none, 5, []⟩,
 ⟨some 14, .extract (.t 8) 0, none, 6, []⟩,
 ⟨some 15, .extract (.t 8) 1, none, 7, []⟩,
 ⟨some 16, .extract (.t 8) 2, none, 8, []⟩,
 ⟨some 5, .mov (.t 14), none, 9, []⟩,
 ⟨some 6, .mov (.t 15), none, 10, []⟩,
 ⟨some 7, .mov (.t 16), none, 11, []⟩]))))))
 (.seq
 (.region 0 ([⟨some 17, .mov (.t 5), none, 0, []⟩,
 ⟨some 4, .mov (.t 17), none, 1, []⟩]))
 (.ret)))),
 [.tmp 4]⟩
def tithingref18_SameItems_l0 : CCode :=
 (.seq
 (.seq
 (.region 0 ([⟨some 11, .mov (.t 5), none, 0, []⟩,
 ⟨some 12, .mov (.t 0), none, 1, []⟩,
 ⟨some 13, .lenV (.t 12), none, 2, []⟩,
 ⟨some 14, .bin .lss (.t 11) (.t 13), none, 3, []⟩]))
 (.cond (.t 14)
 (.skip)
 (.exit 0)))
 (.seq
 (.block 1
 (.seq
 (.region 0 ([⟨some 17, .mov (.t 0), none, 0, []⟩,
 ⟨some 18, .mov (.t 5), none, 1, []⟩,
 ⟨some 19, .iaddrV 4 (.t 17) (.t 18), none, 2, []⟩,
 ⟨some 20, .loadN 4 (.t 19), none, 3, []⟩,
 ⟨some 21, .mov (.t 1), none, 4, []⟩,
 ⟨some 22, .mov (.t 5), none, 5, []⟩,
 ⟨some 23, .iaddrV 4 (.t 21) (.t 22), none, 6, []⟩,
 ⟨some 24, .loadN 4 (.t 23), none, 7, []⟩,
 ⟨some 25, .eqCells true 4 [(0, .int), (1, .int), (2, .str), (3, .bool)] (.t 20) (.t 24), none, 8, []⟩]))
 (.cond (.t 25)
 (.seq
 (.region 0 ([⟨some 4, .mov (.c (.bool false)), none, 0, []⟩]))
 (.ret))
 (.skip))))
 (.region 0 ([⟨some 15, .mov (.t 5), none, 0, []⟩,
 ⟨some 16, .bin .add (.t 15) (.c (.int .i64 1)), none, 1, []⟩,
 ⟨some 5, .mov (.t 16), none, 2, []⟩]))))
def tithingref18_SameItems : CFunc := ⟨26,
 (.seq
 (.region 0 ([⟨some 4, .mov (.c (.bool false)), none, 0, []⟩]))
 (.seq
 (.seq
 (.region 0 ([⟨some 6, .mov (.t 0), none, 0, []⟩,
 ⟨some 7, .lenV (.t 6), none, 1, []⟩,
 ⟨some 8, .mov (.t 1), none, 2, []⟩,
 ⟨some 9, .lenV (.t 8), none, 3, []⟩,
 ⟨some 10, .bin .neq (.t 7) (.t 9), none, 4, []⟩]))
 (.cond (.t 10)
 (.seq
 (.region 0 ([⟨some 4, .mov (.c (.bool false)), none, 0, []⟩]))
 (.ret))
 (.skip)))
 (.seq
 (.seq
 (.region 0 ([⟨some 5, .mov (.c (.int .i64 0)), none, 0, []⟩]))
 (.block 0
 (.loop tithingref18_SameItems_l0)))
 (.seq
 (.region 0 ([⟨some 4, .mov (.c (.bool true)), none, 0, []⟩]))
 (.ret))))),
 [.tmp 4]⟩
def slices_Clone_byte_byte : CFunc := ⟨8,
 (.seq
 (.region 0 ([⟨some 2, .mov (.c (.slice none 0 0)), none, 0, []⟩]))
 (.seq
 (.seq
 (.region 0 ([⟨some 3, .mov (.t 0), none, 0, []⟩,
 ⟨some 4, .eqNil false .sl (.t 3), none, 1, []⟩]))
 (.cond (.t 4)
 (.seq
 (.region 0 ([⟨some 2, .mov (.c (.slice none 0 0)), none, 0, []⟩]))
 (.ret))
 (.skip)))
 (.seq
 (.region 4 ([⟨some 5, .buildSlice 5 0 [] [], none, 0, []⟩,
 ⟨some 6, .mov (.t 0), none, 1, []⟩,
 ⟨some 7, .append 5 1 1 (.t 5) (.t 6), none, 2, []⟩,
 ⟨some 2, .mov (.t 7), none, 3, []⟩]))
 (.ret)))),
 [.tmp 2]⟩
def rights_Valid : CFunc := ⟨26,
 (.seq
 (.region 2 ([⟨some 1, .box 25 (.t 0), none, 0, []⟩,
 ⟨some 2, .mov (.c (.bool false)), none, 1, []⟩]))
 (.seq
 (.many 0 ([⟨some 3, .faddr 0 (.t 1), none, 0, []⟩,
 ⟨some 4, .load1 (.t 3), none, 1, []⟩,
 ⟨some 5, .bin .geq (.t 4) (.c (.int .i64 0)), none, 2, []⟩,
 ⟨some 6, .mov (.t 5), none, 3, []⟩,
 ⟨some 7, .faddr 1 (.t 1), some (some 6, true), 4, []⟩,
 ⟨some 8, .load1 (.t 7), some (some 6, true), 5, []⟩,
 ⟨some 9, .bin .geq (.t 8) (.c (.int .i64 0)), some (some 6, true), 6, []⟩,
 ⟨some 10, .pick (.t 6) (.t 9) (.c (.bool false)), none, 7, []⟩,
 ⟨some 11, .mov (.t 10), none, 8, []⟩,
 ⟨some 12, .faddr 2 (.t 1), some (some 11, true), 9, []⟩,
 ⟨some 13, .load1 (.t 12), some (some 11, true), 10, []⟩] ++
 (⟨some 14, .callF 115 [(.t 13), (.c (.int .i64 0)), (.c (.int .i64 7))], some (some 11, true), 11, []⟩ ::
 ([⟨some 15, .pick (.t 11) (.t 14) (.c (.bool false)), none, 12, []⟩,
 ⟨some 16, .mov (.t 15), none, 13, []⟩,
 ⟨some 17, .faddr 3 (.t 1), some (some 16, true), 14, []⟩,
 ⟨some 18, .load1 (.t 17), some (some 16, true), 15, []⟩] ++
 (⟨some 19, .callF 115 [(.t 18), (.c (.int .i64 0)), (.c (.int .i64 7))], some (some 16, true), 16, []⟩ ::
 ([⟨some 20, .pick (.t 16) (.t 19) (.c (.bool false)), none, 17, []⟩,
 ⟨some 21, .mov (.t 20), none, 18, []⟩,
 ⟨some 22, .faddr 4 (.t 1), some (some 21, true), 19, []⟩,
 ⟨some 23, .load1 (.t 22), some (some 21, true), 20, []⟩] ++
 (⟨some 24, .callF 115 [(.t 23), (.c (.int .i64 0)), (.c (.int .i64 7))], some (some 21, true), 21, []⟩ ::
 ([⟨some 25, .pick (.t 21) (.t 24) (.c (.bool false)), none, 22, []⟩,
 ⟨some 2, .mov (.t 25), none, 23, []⟩]))))))))
 (.ret))),
 [.tmp 2]⟩
def slices_IndexFunc_int_int_l0 : CCode :=
 (.seq
 (.region 0 ([⟨some 9, .bin .lss (.t 8) (.t 7), none, 0, []⟩]))
 (.seq
 (.cond (.t 9)
 (.skip)
 (.exit 0))
 (.seq
 (.block 1
 (.seq
 (.region 0 ([⟨some 10, .mov (.t 8), none, 0, []⟩,
 ⟨some 5, .mov (.t 10), none, 1, []⟩]))
 (.seq
 (.many 0 ([⟨some 11, .mov (.t 1), none, 0, []⟩,
 ⟨some 12, .mov (.t 0), none, 1, []⟩,
 ⟨some 13, .mov (.t 5), none, 2, []⟩,
 ⟨some 14, .iaddrV 1 (.t 12) (.t 13), none, 3, []⟩,
 ⟨some 15, .load1 (.t 14), none, 4, []⟩] ++
 (⟨some 16, .callV (.t 11) [(.t 15)], none, 5, []⟩ ::
 ([]))))
 (.cond (.t 16)
 (.seq
 (.region 0 ([⟨some 17, .mov (.t 5), none, 0, []⟩,
 ⟨some 4, .mov (.t 17), none, 1, []⟩]))
 (.ret))
 (.skip)))))
 (.region 0 ([⟨some 18, .bin .add (.t 8) (.c (.int .i64 1)), none, 0, []⟩,
 ⟨some 8, .mov (.t 18), none, 1, []⟩])))))
def slices_IndexFunc_int_int : CFunc := ⟨19,
 (.seq
 (.region 0 ([⟨some 4, .mov (.c (.int .i64 0)), none, 0, []⟩]))
 (.seq
 (.seq
 (.region 0 ([⟨some 6, .mov (.t 0), none, 0, []⟩,
 ⟨some 7, .lenV (.t 6), none, 1, []⟩,
 ⟨some 8, .mov (.c (.int .i64 0)), none, 2, []⟩]))
 (.block 0
 (.loop slices_IndexFunc_int_int_l0)))
 (.seq
 (.region 0 ([⟨some 4, .mov (.c (.int .i64 (-1))), none, 0, []⟩]))
 (.ret)))),
 [.tmp 4]⟩
def octet_PutText : CFunc := ⟨13,
 (.seq
 (.region 0 ([⟨some 2, .mov (.c (.slice none 0 0)), none, 0, []⟩,
 ⟨some 3, .mov (.c (.int .i64 0)), none, 1, []⟩]))
 (.seq
 (.seq
 (.region 0 ([⟨some 4, .mov (.t 0), none, 0, []⟩,
 ⟨some 5, .lenS (.t 4), none, 1, []⟩,
 ⟨some 6, .bin .gtr (.t 5) (.c (.int .i64 31)), none, 2, []⟩]))
 (.cond (.t 6)
 (.seq
 (.region 0 ([⟨some 2, .mov (.c (.slice none 0 0)), none, 0, []⟩,
 ⟨some 3, .mov (.c (.int .i64 2)), none, 1, []⟩]))
 (.ret))
 (.skip)))
 (.seq
 (.region 8 ([⟨some 7, .mov (.t 0), none, 0, []⟩,
 ⟨some 8, .lenS (.t 7), none, 1, []⟩,
 ⟨some 9, .convI .u8 (.t 8), none, 2, []⟩,
 ⟨some 10, .buildSlice 5 1 [(.int .u8 0)] [(0, 1, (.t 9))], none, 3, []⟩,
 ⟨some 11, .mov (.t 0), none, 4, []⟩,
 ⟨some 12, .append 5 1 1 (.t 10) (.t 11), none, 5, []⟩,
 ⟨some 2, .mov (.t 12), none, 6, []⟩,
 ⟨some 3, .mov (.c (.int .i64 0)), none, 7, []⟩]))
 (.ret)))),
 [.tmp 2, .tmp 3]⟩
def slices_Grow_byte_byte : CFunc := ⟨27,
 (.seq
 (.region 0 ([⟨some 4, .mov (.c (.slice none 0 0)), none, 0, []⟩]))
 (.seq
 (.seq
 (.region 0 ([⟨some 5, .mov (.t 1), none, 0, []⟩,
 ⟨some 6, .bin .lss (.t 5) (.c (.int .i64 0)), none, 1, []⟩]))
 (.cond (.t 6)
 (.no)
 (.skip)))
 (.seq
 (.seq
 (.region 0 ([⟨some 8, .mov (.t 1), none, 0, []⟩,
 ⟨some 9, .mov (.t 0), none, 1, []⟩,
 ⟨some 10, .capV (.t 9), none, 2, []⟩,
 ⟨some 11, .mov (.t 0), none, 3, []⟩,
 ⟨some 12, .lenV (.t 11), none, 4, []⟩,
 ⟨some 13, .bin .sub (.t 10) (.t 12), none, 5, []⟩,
 ⟨some 14, .bin .sub (.t 8) (.t 13), none, 6, []⟩,
 ⟨some 1, .mov (.t 14), none, 7, []⟩]))
 (.seq
 (.region 0 ([⟨some 15, .mov (.t 1), none, 0, []⟩,
 ⟨some 16, .bin .gtr (.t 15) (.c (.int .i64 0)), none, 1, []⟩]))
 (.cond (.t 16)
 (.region 0 ([⟨some 17, .mov (.t 0), none, 0, []⟩,
 ⟨some 18, .mov (.t 0), none, 1, []⟩,
 ⟨some 19, .capV (.t 18), none, 2, []⟩,
 ⟨some 20, .sliceV 1 (.t 17) none (some (.t 19)) none, none, 3, []⟩,
 ⟨some 21, .mov (.t 1), none, 4, []⟩,
 ⟨some 22, .appendZ 5 1 1 [(.int .u8 0)] (.t 20) (.t 21), none, 5, []⟩,
 ⟨some 23, .mov (.t 0), none, 6, []⟩,
 ⟨some 24, .lenV (.t 23), none, 7, []⟩,
 ⟨some 25, .sliceV 1 (.t 22) none (some (.t 24)) none, none, 8, []⟩,
 ⟨some 0, .mov (.t 25), none, 9, []⟩]))
 (.skip))))
 (.seq
 (.region 0 ([⟨some 26, .mov (.t 0), none, 0, []⟩,
 ⟨some 4, .mov (.t 26), none, 1, []⟩]))
 (.ret))))),
 [.tmp 4]⟩
def _tithing_client_reader_fail : CFunc := ⟨10,
 (.seq
 (.region 0 ([⟨some 2, .mov (.t 0), none, 0, []⟩,
 ⟨some 3, .nilCheck (.t 2), none, 1, []⟩,
 ⟨some 4, .faddr 2 (.t 3), none, 2, []⟩,
 ⟨some 5, .load1 (.t 4), none, 3, []⟩,
 ⟨some 6, .bin .eql (.t 5) (.c (.int .i64 0)), none, 4, []⟩]))
 (.cond (.t 6)
 (.region 0 ([⟨some 7, .mov (.t 0), none, 0, []⟩,
 ⟨some 8, .nilCheck (.t 7), none, 1, []⟩,
 ⟨some 9, .faddr 2 (.t 8), none, 2, []⟩,
 ⟨none, .store 1 (.t 9) (.c (.int .i64 3)), none, 3, []⟩]))
 (.skip))),
 []⟩
def _tithing_client_reader_take : CFunc := ⟨57,
 (.seq
 (.region 0 ([⟨some 4, .mov (.c (.slice none 0 0)), none, 0, []⟩]))
 (.seq
 (.seq
 (.region 0 ([⟨some 5, .mov (.t 0), none, 0, []⟩,
 ⟨some 6, .nilCheck (.t 5), none, 1, []⟩,
 ⟨some 7, .faddr 2 (.t 6), none, 2, []⟩,
 ⟨some 8, .load1 (.t 7), none, 3, []⟩,
 ⟨some 9, .bin .eql (.t 8) (.c (.int .i64 0)), none, 4, []⟩,
 ⟨some 10, .mov (.t 9), none, 5, []⟩,
 ⟨some 11, .mov (.t 1), some (some 10, true), 6, []⟩,
 ⟨some 12, .mov (.t 0), some (some 10, true), 7, []⟩,
 ⟨some 13, .nilCheck (.t 12), some (some 10, true), 8, []⟩,
 ⟨some 14, .faddr 0 (.t 13), some (some 10, true), 9, []⟩,
 ⟨some 15, .load1 (.t 14), some (some 10, true), 10, []⟩,
 ⟨some 16, .lenV (.t 15), some (some 10, true), 11, []⟩,
 ⟨some 17, .mov (.t 0), some (some 10, true), 12, []⟩,
 ⟨some 18, .nilCheck (.t 17), some (some 10, true), 13, []⟩,
 ⟨some 19, .faddr 1 (.t 18), some (some 10, true), 14, []⟩,
 ⟨some 20, .load1 (.t 19), some (some 10, true), 15, []⟩,
 ⟨some 21, .bin .sub (.t 16) (.t 20), some (some 10, true), 16, []⟩,
 ⟨some 22, .bin .gtr (.t 11) (.t 21), some (some 10, true), 17, []⟩,
 ⟨some 23, .pick (.t 10) (.t 22) (.c (.bool false)), none, 18, []⟩]))
 (.cond (.t 23)
 (.region 0 ([⟨some 24, .mov (.t 0), none, 0, []⟩,
 ⟨some 25, .nilCheck (.t 24), none, 1, []⟩,
 ⟨some 26, .faddr 2 (.t 25), none, 2, []⟩,
 ⟨none, .store 1 (.t 26) (.c (.int .i64 6)), none, 3, []⟩]))
 (.skip)))
 (.seq
 (.seq
 (.region 0 ([⟨some 27, .mov (.t 0), none, 0, []⟩,
 ⟨some 28, .nilCheck (.t 27), none, 1, []⟩,
 ⟨some 29, .faddr 2 (.t 28), none, 2, []⟩,
 ⟨some 30, .load1 (.t 29), none, 3, []⟩,
 ⟨some 31, .bin .neq (.t 30) (.c (.int .i64 0)), none, 4, []⟩]))
 (.cond (.t 31)
 (.seq
 (.region 3 ([⟨some 32, .mov (.t 1), none, 0, []⟩,
 ⟨some 33, .mkSlice 5 1 [(.int .u8 0)] (.t 32) (.t 32), none, 1, []⟩,
 ⟨some 4, .mov (.t 33), none, 2, []⟩]))
 (.ret))
 (.skip)))
 (.seq
 (.region 0 ([⟨some 34, .mov (.t 0), none, 0, []⟩,
 ⟨some 35, .nilCheck (.t 34), none, 1, []⟩,
 ⟨some 36, .faddr 1 (.t 35), none, 2, []⟩,
 ⟨some 37, .load1 (.t 36), none, 3, []⟩,
 ⟨some 38, .mov (.t 1), none, 4, []⟩,
 ⟨some 39, .bin .add (.t 37) (.t 38), none, 5, []⟩,
 ⟨some 40, .nilCheck (.t 34), none, 6, []⟩,
 ⟨some 41, .faddr 1 (.t 40), none, 7, []⟩,
 ⟨none, .store 1 (.t 41) (.t 39), none, 8, []⟩]))
 (.seq
 (.region 0 ([⟨some 42, .mov (.t 0), none, 0, []⟩,
 ⟨some 43, .nilCheck (.t 42), none, 1, []⟩,
 ⟨some 44, .faddr 0 (.t 43), none, 2, []⟩,
 ⟨some 45, .load1 (.t 44), none, 3, []⟩,
 ⟨some 46, .mov (.t 0), none, 4, []⟩,
 ⟨some 47, .nilCheck (.t 46), none, 5, []⟩,
 ⟨some 48, .faddr 1 (.t 47), none, 6, []⟩,
 ⟨some 49, .load1 (.t 48), none, 7, []⟩,
 ⟨some 50, .mov (.t 1), none, 8, []⟩,
 ⟨some 51, .bin .sub (.t 49) (.t 50), none, 9, []⟩,
 ⟨some 52, .mov (.t 0), none, 10, []⟩,
 ⟨some 53, .nilCheck (.t 52), none, 11, []⟩,
 ⟨some 54, .faddr 1 (.t 53), none, 12, []⟩,
 ⟨some 55, .load1 (.t 54), none, 13, []⟩,
 ⟨some 56, .sliceV 1 (.t 45) (some (.t 51)) (some (.t 55)) none, none, 14, []⟩,
 ⟨some 4, .mov (.t 56), none, 15, []⟩]))
 (.ret)))))),
 [.tmp 4]⟩
def octet_isWidth : CFunc := ⟨13,
 (.seq
 (.region 0 ([⟨some 2, .mov (.c (.bool false)), none, 0, []⟩]))
 (.seq
 (.region 0 ([⟨some 3, .mov (.t 0), none, 0, []⟩,
 ⟨some 4, .bin .eql (.t 3) (.c (.int .i64 1)), none, 1, []⟩,
 ⟨some 5, .mov (.t 4), none, 2, []⟩,
 ⟨some 6, .mov (.t 0), some (some 5, false), 3, []⟩,
 ⟨some 7, .bin .eql (.t 6) (.c (.int .i64 2)), some (some 5, false), 4, []⟩,
 ⟨some 8, .pick (.t 5) (.c (.bool true)) (.t 7), none, 5, []⟩,
 ⟨some 9, .mov (.t 8), none, 6, []⟩,
 ⟨some 10, .mov (.t 0), some (some 9, false), 7, []⟩,
 ⟨some 11, .bin .eql (.t 10) (.c (.int .i64 4)), some (some 9, false), 8, []⟩,
 ⟨some 12, .pick (.t 9) (.c (.bool true)) (.t 11), none, 9, []⟩,
 ⟨some 2, .mov (.t 12), none, 10, []⟩]))
 (.ret))),
 [.tmp 2]⟩
def octet_Get_l0 : CCode :=
 (.seq
 (.region 0 ([⟨some 40, .bin .lss (.t 39) (.t 38), none, 0, []⟩]))
 (.seq
 (.cond (.t 40)
 (.skip)
 (.exit 1))
 (.seq
 (.block 2
 (.seq
 (.region 0 ([⟨some 41, .iaddrV 1 (.t 37) (.t 39), none, 0, []⟩,
 ⟨some 42, .load1 (.t 41), none, 1, []⟩,
 ⟨some 10, .mov (.t 42), none, 2, []⟩]))
 (.region 0 ([⟨some 43, .mov (.t 6), none, 0, []⟩,
 ⟨some 44, .bin .shl (.t 43) (.c (.int .u64 8)), none, 1, []⟩,
 ⟨some 45, .mov (.t 10), none, 2, []⟩,
 ⟨some 46, .convI .i64 (.t 45), none, 3, []⟩,
 ⟨some 47, .bin .or (.t 44) (.t 46), none, 4, []⟩,
 ⟨some 6, .mov (.t 47), none, 5, []⟩]))))
 (.region 0 ([⟨some 48, .bin .add (.t 39) (.c (.int .i64 1)), none, 0, []⟩,
 ⟨some 39, .mov (.t 48), none, 1, []⟩])))))
def octet_Get : CFunc := ⟨53,
 (.seq
 (.region 0 ([⟨some 6, .mov (.c (.int .i64 0)), none, 0, []⟩,
 ⟨some 7, .mov (.c (.int .i64 0)), none, 1, []⟩,
 ⟨some 8, .mov (.c (.int .i64 0)), none, 2, []⟩]))
 (.seq
 (.block 0
 (.seq
 (.many 0 ([⟨some 12, .mov (.t 2), none, 0, []⟩] ++
 (⟨some 13, .callF 88 [(.t 12)], none, 1, []⟩ ::
 ([⟨some 14, .un .not (.t 13), none, 2, []⟩,
 ⟨some 15, .mov (.t 14), none, 3, []⟩,
 ⟨some 16, .mov (.t 1), some (some 15, false), 4, []⟩,
 ⟨some 17, .bin .lss (.t 16) (.c (.int .i64 0)), some (some 15, false), 5, []⟩,
 ⟨some 18, .pick (.t 15) (.c (.bool true)) (.t 17), none, 6, []⟩,
 ⟨some 19, .mov (.t 18), none, 7, []⟩,
 ⟨some 20, .mov (.t 1), some (some 19, false), 8, []⟩,
 ⟨some 21, .mov (.t 0), some (some 19, false), 9, []⟩,
 ⟨some 22, .lenV (.t 21), some (some 19, false), 10, []⟩,
 ⟨some 23, .bin .gtr (.t 20) (.t 22), some (some 19, false), 11, []⟩,
 ⟨some 24, .pick (.t 19) (.c (.bool true)) (.t 23), none, 12, []⟩,
 ⟨some 11, .mov (.t 24), none, 13, []⟩]))))
 (.cond (.t 11)
 (.seq
 (.region 0 ([⟨some 6, .mov (.c (.int .i64 0)), none, 0, []⟩,
 ⟨some 7, .mov (.c (.int .i64 0)), none, 1, []⟩,
 ⟨some 8, .mov (.c (.int .i64 2)), none, 2, []⟩]))
 (.ret))
 (.seq
 (.region 0 ([⟨some 26, .mov (.t 0), none, 0, []⟩,
 ⟨some 27, .lenV (.t 26), none, 1, []⟩,
 ⟨some 28, .mov (.t 1), none, 2, []⟩,
 ⟨some 29, .bin .sub (.t 27) (.t 28), none, 3, []⟩,
 ⟨some 30, .mov (.t 2), none, 4, []⟩,
 ⟨some 31, .bin .lss (.t 29) (.t 30), none, 5, []⟩,
 ⟨some 25, .mov (.t 31), none, 6, []⟩]))
 (.cond (.t 25)
 (.seq
 (.region 0 ([⟨some 6, .mov (.c (.int .i64 0)), none, 0, []⟩,
 ⟨some 7, .mov (.c (.int .i64 0)), none, 1, []⟩,
 ⟨some 8, .mov (.c (.int .i64 6)), none, 2, []⟩]))
 (.ret))
 (.skip))))))
 (.seq
 (.seq
 (.region 0 ([⟨some 32, .mov (.t 0), none, 0, []⟩,
 ⟨some 33, .mov (.t 1), none, 1, []⟩,
 ⟨some 34, .mov (.t 1), none, 2, []⟩,
 ⟨some 35, .mov (.t 2), none, 3, []⟩,
 ⟨some 36, .bin .add (.t 34) (.t 35), none, 4, []⟩,
 ⟨some 37, .sliceV 1 (.t 32) (some (.t 33)) (some (.t 36)) none, none, 5, []⟩,
 ⟨some 38, .lenV (.t 37), none, 6, []⟩,
 ⟨some 39, .mov (.c (.int .i64 0)), none, 7, []⟩]))
 (.block 1
 (.loop octet_Get_l0)))
 (.seq
 (.region 0 ([⟨some 49, .mov (.t 6), none, 0, []⟩,
 ⟨some 50, .mov (.t 1), none, 1, []⟩,
 ⟨some 51, .mov (.t 2), none, 2, []⟩,
 ⟨some 52, .bin .add (.t 50) (.t 51), none, 3, []⟩,
 ⟨some 6, .mov (.t 49), none, 4, []⟩,
 ⟨some 7, .mov (.t 52), none, 5, []⟩,
 ⟨some 8, .mov (.c (.int .i64 0)), none, 6, []⟩]))
 (.ret))))),
 [.tmp 6, .tmp 7, .tmp 8]⟩
def rights_within : CFunc := ⟨15,
 (.seq
 (.region 0 ([⟨some 6, .mov (.c (.bool false)), none, 0, []⟩]))
 (.seq
 (.region 0 ([⟨some 7, .mov (.t 0), none, 0, []⟩,
 ⟨some 8, .mov (.t 1), none, 1, []⟩,
 ⟨some 9, .bin .geq (.t 7) (.t 8), none, 2, []⟩,
 ⟨some 10, .mov (.t 9), none, 3, []⟩,
 ⟨some 11, .mov (.t 0), some (some 10, true), 4, []⟩,
 ⟨some 12, .mov (.t 2), some (some 10, true), 5, []⟩,
 ⟨some 13, .bin .leq (.t 11) (.t 12), some (some 10, true), 6, []⟩,
 ⟨some 14, .pick (.t 10) (.t 13) (.c (.bool false)), none, 7, []⟩,
 ⟨some 6, .mov (.t 14), none, 8, []⟩]))
 (.ret))),
 [.tmp 6]⟩
end Code
structure Codes (E : Env) : Prop where
 tithinglaw26_ClientBack : Has E 7 Code.tithinglaw26_ClientBack
 tithinglaw26_LongCall : Has E 8 Code.tithinglaw26_LongCall
 client_PutCall : Has E 10 Code.client_PutCall
 client_GetCall : Has E 12 Code.client_GetCall
 tithingref26_SameCalls : Has E 14 Code.tithingref26_SameCalls
 tithinglaw26_longReply : Has E 15 Code.tithinglaw26_longReply
 client_PutReply : Has E 16 Code.client_PutReply
 client_GetReply : Has E 18 Code.client_GetReply
 tithingref25_Same : Has E 20 Code.tithingref25_Same
 server_PutRights : Has E 26 Code.server_PutRights
 slices_ContainsFunc_int_int : Has E 27 Code.slices_ContainsFunc_int_int
 client_PutCall_1 : Has E 28 Code.client_PutCall_1
 client_isNumber : Has E 29 Code.client_isNumber
 client_counted : Has E 30 Code.client_counted
 client_number : Has E 31 Code.client_number
 slices_Concat_byte_byte : Has E 32 Code.slices_Concat_byte_byte
 client_modeByte : Has E 33 Code.client_modeByte
 client_long : Has E 34 Code.client_long
 _tithing_client_reader_text : Has E 40 Code._tithing_client_reader_text
 _tithing_client_reader_number : Has E 41 Code._tithing_client_reader_number
 _tithing_client_reader_most : Has E 42 Code._tithing_client_reader_most
 _tithing_client_reader_rights : Has E 43 Code._tithing_client_reader_rights
 _tithing_client_reader_long : Has E 44 Code._tithing_client_reader_long
 _tithing_client_reader_end : Has E 45 Code._tithing_client_reader_end
 octet_Put : Has E 53 Code.octet_Put
 _tithing_client_reader_fixed : Has E 55 Code._tithing_client_reader_fixed
 tithingref18_SameItems : Has E 56 Code.tithingref18_SameItems
 slices_Clone_byte_byte : Has E 76 Code.slices_Clone_byte_byte
 rights_Valid : Has E 78 Code.rights_Valid
 slices_IndexFunc_int_int : Has E 79 Code.slices_IndexFunc_int_int
 octet_PutText : Has E 80 Code.octet_PutText
 slices_Grow_byte_byte : Has E 81 Code.slices_Grow_byte_byte
 _tithing_client_reader_fail : Has E 84 Code._tithing_client_reader_fail
 _tithing_client_reader_take : Has E 85 Code._tithing_client_reader_take
 octet_isWidth : Has E 88 Code.octet_isWidth
 octet_Get : Has E 89 Code.octet_Get
 rights_within : Has E 115 Code.rights_within
end Go.Ev
