import Derived.Test.YtehbekgmemebjaaDoorEvLen
import Derived.Test.YtehbekgmemebjaaDoorEvApp
namespace Go.Proofs.YtehbekgmemebjaaDoorEv
open Go Go.RowKit Go.Proofs.YtehbekgmemebjaaDoor.PAll Go.Proofs.YtehbekgmemebjaaDoor.PAll.H Go.Proofs.YtehbekgmemebjaaDoorW.PrintWords Go.Proofs.YtehbekgmemebjaaDoorW.PrintLast Go.Proofs.YtehbekgmemebjaaDoorW.PrintMore
set_option linter.unusedVariables false
set_option linter.unusedSimpArgs false
attribute [local go_sem] evOp beq_true beq_false List.getElem?_toArray List.getElem?_cons_zero List.getElem?_cons_succ env_tmp env_const env_func env_global nx_get nx_getn nx_H nx_ds nx_df nx_pm get_enter one_ne_zero' zero_ne_one' if_false if_true ite_true ite_false List.getD_cons_zero List.getD_cons_succ Option.map_some Option.map_none Option.bind_some binO unO eqO List.map_toArray List.map_cons List.map_nil Array.append_empty Array.empty_append List.nil_append List.append_nil List.append_toArray List.cons_append ne_eq not_true_eq_false Bool.false_eq_true Bool.not_true Bool.not_false Bool.true_eq_false
def a35 : AFunc := ⟨139, [(.tmp 2), (.tmp 3)], (.seq (.ops [⟨(some 2), (.mv (.const (.slice none 0 0))), none⟩, ⟨(some 3), (.mv (.const (.bool false))), none⟩]) (.seq (.seq (.ops [⟨(some 8), (.mv (.tmp 0)), none⟩, ⟨(some 9), (.lenL (.tmp 8)), none⟩, ⟨(some 10), (.bin .gtr (.tmp 9) (.const (.int .i64 (4000)))), none⟩]) (.cond (.tmp 10) (.seq (.ops [⟨(some 2), (.mv (.const (.slice none 0 0))), none⟩, ⟨(some 3), (.mv (.const (.bool false))), none⟩]) .ret) .skip)) (.seq (.ops [⟨(some 4), (.mv (.const (.slice none 0 0))), none⟩]) (.seq (.seq (.ops [⟨(some 5), (.mv (.const (.int .i64 (0)))), none⟩]) (.block 0 (.loop (.seq (.seq (.ops [⟨(some 11), (.mv (.tmp 5)), none⟩, ⟨(some 12), (.mv (.tmp 0)), none⟩, ⟨(some 13), (.lenL (.tmp 12)), none⟩, ⟨(some 14), (.bin .lss (.tmp 11) (.tmp 13)), none⟩]) (.cond (.tmp 14) .skip (.exit 0))) (.seq (.block 1 (.seq (.ops [⟨(some 17), (.mv (.tmp 0)), none⟩, ⟨(some 18), (.mv (.tmp 5)), none⟩, ⟨(some 19), (.ixS 4 (.tmp 17) (.tmp 18)), none⟩, ⟨(some 20), (.loadA 4 (.tmp 19)), none⟩, ⟨(some 6), (.new 55 [(.string (⟨#[]⟩ : ByteArray)), (.int .i64 (0)), (.int .i64 (0)), (.int .i64 (0))]), none⟩, ⟨none, (.store 4 (.tmp 6) (.tmp 20)), none⟩]) (.seq (.ops [⟨(some 7), (.mv (.const (.int .i64 (0)))), none⟩]) (.seq (.block 2 (.seq (.ops [⟨(some 67), (.off (.tmp 6) 0), none⟩, ⟨(some 68), (.load (.tmp 67)), none⟩, ⟨(some 69), (.bin .neq (.tmp 68) (.const (.string (⟨#[]⟩ : ByteArray)))), none⟩, ⟨(some 66), (.mv (.tmp 69)), none⟩]) (.cond (.tmp 66) (.seq (.seq (.ops [⟨(some 70), (.off (.tmp 6) 0), none⟩, ⟨(some 71), (.load (.tmp 70)), none⟩, ⟨(some 72), (.call (.func 21) #[(.tmp 71), (.const (.int .i64 (100)))]), none⟩, ⟨(some 73), (.un .not (.tmp 72)), none⟩, ⟨(some 74), (.mv (.tmp 73)), none⟩, ⟨(some 75), (.off (.tmp 6) 1), (some ((some 74), false))⟩, ⟨(some 76), (.load (.tmp 75)), (some ((some 74), false))⟩, ⟨(some 77), (.bin .neq (.tmp 76) (.const (.int .i64 (0)))), (some ((some 74), false))⟩, ⟨(some 78), (.pick (.tmp 74) (.const (.bool true)) (.tmp 77)), none⟩, ⟨(some 79), (.mv (.tmp 78)), none⟩, ⟨(some 80), (.off (.tmp 6) 2), (some ((some 79), false))⟩, ⟨(some 81), (.load (.tmp 80)), (some ((some 79), false))⟩, ⟨(some 82), (.bin .neq (.tmp 81) (.const (.int .i64 (0)))), (some ((some 79), false))⟩, ⟨(some 83), (.pick (.tmp 79) (.const (.bool true)) (.tmp 82)), none⟩, ⟨(some 84), (.mv (.tmp 83)), none⟩, ⟨(some 85), (.off (.tmp 6) 3), (some ((some 84), false))⟩, ⟨(some 86), (.load (.tmp 85)), (some ((some 84), false))⟩, ⟨(some 87), (.bin .neq (.tmp 86) (.const (.int .i64 (0)))), (some ((some 84), false))⟩, ⟨(some 88), (.pick (.tmp 84) (.const (.bool true)) (.tmp 87)), none⟩]) (.cond (.tmp 88) (.seq (.ops [⟨(some 2), (.mv (.const (.slice none 0 0))), none⟩, ⟨(some 3), (.mv (.const (.bool false))), none⟩]) .ret) .skip)) (.ops [⟨(some 89), (.off (.tmp 6) 0), none⟩, ⟨(some 90), (.load (.tmp 89)), none⟩, ⟨(some 91), (.lenS (.tmp 90)), none⟩, ⟨(some 7), (.mv (.tmp 91)), none⟩])) (.seq (.ops [⟨(some 93), (.off (.tmp 6) 3), none⟩, ⟨(some 94), (.load (.tmp 93)), none⟩, ⟨(some 95), (.bin .neq (.tmp 94) (.const (.int .i64 (0)))), none⟩, ⟨(some 92), (.mv (.tmp 95)), none⟩]) (.cond (.tmp 92) (.seq (.seq (.drawn [⟨⟨(some 96), (.off (.tmp 6) 3), none⟩, [], false⟩, ⟨⟨(some 97), (.load (.tmp 96)), none⟩, [0], false⟩, ⟨⟨(some 98), (.bin .lss (.tmp 97) (.const (.int .i64 (1)))), none⟩, [1, 0], false⟩, ⟨⟨(some 99), (.mv (.tmp 98)), none⟩, [2, 1, 0], false⟩, ⟨⟨(some 100), (.off (.tmp 6) 1), (some ((some 99), false))⟩, [3, 2, 1, 0], false⟩, ⟨⟨(some 101), (.load (.tmp 100)), (some ((some 99), false))⟩, [4, 3, 2, 1, 0], false⟩, ⟨⟨(some 102), (.bin .lss (.tmp 101) (.const (.int .i64 (0)))), (some ((some 99), false))⟩, [5, 3, 4, 2, 1, 0], false⟩, ⟨⟨(some 103), (.pick (.tmp 99) (.const (.bool true)) (.tmp 102)), none⟩, [3, 6, 2, 1, 0, 5, 4], false⟩, ⟨⟨(some 104), (.mv (.tmp 103)), none⟩, [7, 3, 6, 2, 1, 0, 5, 4], false⟩, ⟨⟨(some 105), (.off (.tmp 6) 1), (some ((some 104), false))⟩, [8, 7, 3, 6, 2, 1, 0, 5, 4], false⟩, ⟨⟨(some 106), (.load (.tmp 105)), (some ((some 104), false))⟩, [9, 8, 7, 3, 6, 2, 1, 0, 5, 4], false⟩, ⟨⟨(some 107), (.mv (.tmp 5)), (some ((some 104), false))⟩, [8, 7, 3, 6, 2, 1, 0, 5, 4], false⟩, ⟨⟨(some 108), (.bin .geq (.tmp 106) (.tmp 107)), (some ((some 104), false))⟩, [10, 11, 8, 9, 7, 3, 6, 2, 1, 0, 5, 4], false⟩, ⟨⟨(some 109), (.pick (.tmp 104) (.const (.bool true)) (.tmp 108)), none⟩, [8, 12, 7, 3, 6, 2, 1, 0, 5, 4, 10, 11, 9], false⟩, ⟨⟨(some 110), (.mv (.tmp 109)), none⟩, [13, 8, 12, 7, 3, 6, 2, 1, 0, 5, 4, 10, 11, 9], false⟩, ⟨⟨(some 111), (.off (.tmp 6) 2), (some ((some 110), false))⟩, [14, 13, 8, 12, 7, 3, 6, 2, 1, 0, 5, 4, 10, 11, 9], false⟩, ⟨⟨(some 112), (.load (.tmp 111)), (some ((some 110), false))⟩, [15, 14, 13, 8, 12, 7, 3, 6, 2, 1, 0, 5, 4, 10, 11, 9], false⟩, ⟨⟨(some 113), (.bin .neq (.tmp 112) (.const (.int .i64 (0)))), (some ((some 110), false))⟩, [16, 14, 15, 13, 8, 12, 7, 3, 6, 2, 1, 0, 5, 4, 10, 11, 9], false⟩, ⟨⟨(some 114), (.pick (.tmp 110) (.const (.bool true)) (.tmp 113)), none⟩, [14, 17, 13, 8, 12, 7, 3, 6, 2, 1, 0, 5, 4, 10, 11, 9, 16, 15], false⟩, ⟨⟨(some 115), (.mv (.tmp 114)), none⟩, [18, 14, 17, 13, 8, 12, 7, 3, 6, 2, 1, 0, 5, 4, 10, 11, 9, 16, 15], false⟩, ⟨⟨(some 116), (.off (.tmp 6) 3), (some ((some 115), false))⟩, [19, 18, 14, 17, 13, 8, 12, 7, 3, 6, 2, 1, 0, 5, 4, 10, 11, 9, 16, 15], false⟩, ⟨⟨(some 117), (.load (.tmp 116)), (some ((some 115), false))⟩, [20, 19, 18, 14, 17, 13, 8, 12, 7, 3, 6, 2, 1, 0, 5, 4, 10, 11, 9, 16, 15], false⟩, ⟨⟨(some 118), (.mv (.tmp 4)), (some ((some 115), false))⟩, [19, 18, 14, 17, 13, 8, 12, 7, 3, 6, 2, 1, 0, 5, 4, 10, 11, 9, 16, 15], false⟩, ⟨⟨(some 119), (.off (.tmp 6) 1), (some ((some 115), false))⟩, [19, 18, 14, 17, 13, 8, 12, 7, 3, 6, 2, 1, 0, 5, 4, 10, 11, 9, 16, 15], false⟩, ⟨⟨(some 120), (.load (.tmp 119)), (some ((some 115), false))⟩, [23, 19, 18, 14, 17, 13, 8, 12, 7, 3, 6, 2, 1, 0, 5, 4, 10, 11, 9, 16, 15], false⟩, ⟨⟨(some 121), (.ixS 1 (.tmp 118) (.tmp 120)), (some ((some 115), false))⟩, [22, 24, 19, 18, 14, 17, 13, 8, 12, 7, 3, 6, 2, 1, 0, 5, 4, 10, 11, 9, 16, 15, 23], false⟩, ⟨⟨(some 122), (.load (.tmp 121)), (some ((some 115), false))⟩, [25, 19, 22, 24, 18, 14, 17, 13, 8, 12, 7, 3, 6, 2, 1, 0, 5, 4, 10, 11, 9, 16, 15, 23], false⟩, ⟨⟨(some 123), (.bin .quo (.const (.int .i64 (1152921504606846976))) (.tmp 122)), (some ((some 115), false))⟩, [26, 19, 25, 22, 24, 18, 14, 17, 13, 8, 12, 7, 3, 6, 2, 1, 0, 5, 4, 10, 11, 9, 16, 15, 23], false⟩, ⟨⟨(some 124), (.bin .gtr (.tmp 117) (.tmp 123)), (some ((some 115), false))⟩, [21, 27, 19, 20, 18, 14, 17, 13, 8, 12, 7, 3, 6, 2, 1, 0, 5, 4, 10, 11, 9, 16, 15, 26, 25, 22, 24, 23], false⟩, ⟨⟨(some 125), (.pick (.tmp 115) (.const (.bool true)) (.tmp 124)), none⟩, [19, 28, 18, 14, 17, 13, 8, 12, 7, 3, 6, 2, 1, 0, 5, 4, 10, 11, 9, 16, 15, 21, 27, 20, 26, 25, 22, 24, 23], false⟩]) (.cond (.tmp 125) (.seq (.ops [⟨(some 2), (.mv (.const (.slice none 0 0))), none⟩, ⟨(some 3), (.mv (.const (.bool false))), none⟩]) .ret) .skip)) (.drawn [⟨⟨(some 126), (.off (.tmp 6) 3), none⟩, [], false⟩, ⟨⟨(some 127), (.load (.tmp 126)), none⟩, [0], false⟩, ⟨⟨(some 128), (.mv (.tmp 4)), none⟩, [], false⟩, ⟨⟨(some 129), (.off (.tmp 6) 1), none⟩, [], false⟩, ⟨⟨(some 130), (.load (.tmp 129)), none⟩, [3], false⟩, ⟨⟨(some 131), (.ixS 1 (.tmp 128) (.tmp 130)), none⟩, [2, 4, 3], false⟩, ⟨⟨(some 132), (.load (.tmp 131)), none⟩, [5, 2, 4, 3], false⟩, ⟨⟨(some 133), (.bin .mul (.tmp 127) (.tmp 132)), none⟩, [1, 6, 0, 5, 2, 4, 3], false⟩, ⟨⟨(some 7), (.mv (.tmp 133)), none⟩, [7, 0, 1, 2, 3, 4, 5, 6], false⟩])) (.seq (.seq (.drawn [⟨⟨(some 21), (.off (.tmp 6) 1), none⟩, [], false⟩, ⟨⟨(some 22), (.load (.tmp 21)), none⟩, [0], false⟩, ⟨⟨(some 23), (.bin .lss (.tmp 22) (.const (.int .i64 (0)))), none⟩, [1, 0], false⟩, ⟨⟨(some 24), (.mv (.tmp 23)), none⟩, [2, 1, 0], false⟩, ⟨⟨(some 25), (.off (.tmp 6) 1), (some ((some 24), false))⟩, [3, 2, 1, 0], false⟩, ⟨⟨(some 26), (.load (.tmp 25)), (some ((some 24), false))⟩, [4, 3, 2, 1, 0], false⟩, ⟨⟨(some 27), (.mv (.tmp 5)), (some ((some 24), false))⟩, [3, 2, 1, 0], false⟩, ⟨⟨(some 28), (.bin .geq (.tmp 26) (.tmp 27)), (some ((some 24), false))⟩, [5, 6, 3, 4, 2, 1, 0], false⟩, ⟨⟨(some 29), (.pick (.tmp 24) (.const (.bool true)) (.tmp 28)), none⟩, [3, 7, 2, 1, 0, 5, 6, 4], false⟩, ⟨⟨(some 30), (.mv (.tmp 29)), none⟩, [8, 3, 7, 2, 1, 0, 5, 6, 4], false⟩, ⟨⟨(some 31), (.off (.tmp 6) 2), (some ((some 30), false))⟩, [9, 8, 3, 7, 2, 1, 0, 5, 6, 4], false⟩, ⟨⟨(some 32), (.load (.tmp 31)), (some ((some 30), false))⟩, [10, 9, 8, 3, 7, 2, 1, 0, 5, 6, 4], false⟩, ⟨⟨(some 33), (.bin .lss (.tmp 32) (.const (.int .i64 (0)))), (some ((some 30), false))⟩, [11, 9, 10, 8, 3, 7, 2, 1, 0, 5, 6, 4], false⟩, ⟨⟨(some 34), (.pick (.tmp 30) (.const (.bool true)) (.tmp 33)), none⟩, [9, 12, 8, 3, 7, 2, 1, 0, 5, 6, 4, 11, 10], false⟩, ⟨⟨(some 35), (.mv (.tmp 34)), none⟩, [13, 9, 12, 8, 3, 7, 2, 1, 0, 5, 6, 4, 11, 10], false⟩, ⟨⟨(some 36), (.off (.tmp 6) 2), (some ((some 35), false))⟩, [14, 13, 9, 12, 8, 3, 7, 2, 1, 0, 5, 6, 4, 11, 10], false⟩, ⟨⟨(some 37), (.load (.tmp 36)), (some ((some 35), false))⟩, [15, 14, 13, 9, 12, 8, 3, 7, 2, 1, 0, 5, 6, 4, 11, 10], false⟩, ⟨⟨(some 38), (.mv (.tmp 5)), (some ((some 35), false))⟩, [14, 13, 9, 12, 8, 3, 7, 2, 1, 0, 5, 6, 4, 11, 10], false⟩, ⟨⟨(some 39), (.bin .geq (.tmp 37) (.tmp 38)), (some ((some 35), false))⟩, [16, 17, 14, 15, 13, 9, 12, 8, 3, 7, 2, 1, 0, 5, 6, 4, 11, 10], false⟩, ⟨⟨(some 40), (.pick (.tmp 35) (.const (.bool true)) (.tmp 39)), none⟩, [14, 18, 13, 9, 12, 8, 3, 7, 2, 1, 0, 5, 6, 4, 11, 10, 16, 17, 15], false⟩, ⟨⟨(some 41), (.mv (.tmp 40)), none⟩, [19, 14, 18, 13, 9, 12, 8, 3, 7, 2, 1, 0, 5, 6, 4, 11, 10, 16, 17, 15], false⟩, ⟨⟨(some 42), (.mv (.tmp 4)), (some ((some 41), false))⟩, [20, 19, 14, 18, 13, 9, 12, 8, 3, 7, 2, 1, 0, 5, 6, 4, 11, 10, 16, 17, 15], false⟩, ⟨⟨(some 43), (.off (.tmp 6) 1), (some ((some 41), false))⟩, [20, 19, 14, 18, 13, 9, 12, 8, 3, 7, 2, 1, 0, 5, 6, 4, 11, 10, 16, 17, 15], false⟩, ⟨⟨(some 44), (.load (.tmp 43)), (some ((some 41), false))⟩, [22, 20, 19, 14, 18, 13, 9, 12, 8, 3, 7, 2, 1, 0, 5, 6, 4, 11, 10, 16, 17, 15], false⟩, ⟨⟨(some 45), (.ixS 1 (.tmp 42) (.tmp 44)), (some ((some 41), false))⟩, [21, 23, 20, 19, 14, 18, 13, 9, 12, 8, 3, 7, 2, 1, 0, 5, 6, 4, 11, 10, 16, 17, 15, 22], false⟩, ⟨⟨(some 46), (.load (.tmp 45)), (some ((some 41), false))⟩, [24, 20, 21, 23, 19, 14, 18, 13, 9, 12, 8, 3, 7, 2, 1, 0, 5, 6, 4, 11, 10, 16, 17, 15, 22], false⟩, ⟨⟨(some 47), (.mv (.tmp 4)), (some ((some 41), false))⟩, [20, 19, 14, 18, 13, 9, 12, 8, 3, 7, 2, 1, 0, 5, 6, 4, 11, 10, 16, 17, 15], false⟩, ⟨⟨(some 48), (.off (.tmp 6) 2), (some ((some 41), false))⟩, [20, 19, 14, 18, 13, 9, 12, 8, 3, 7, 2, 1, 0, 5, 6, 4, 11, 10, 16, 17, 15], false⟩, ⟨⟨(some 49), (.load (.tmp 48)), (some ((some 41), false))⟩, [27, 20, 19, 14, 18, 13, 9, 12, 8, 3, 7, 2, 1, 0, 5, 6, 4, 11, 10, 16, 17, 15], false⟩, ⟨⟨(some 50), (.ixS 1 (.tmp 47) (.tmp 49)), (some ((some 41), false))⟩, [26, 28, 20, 19, 14, 18, 13, 9, 12, 8, 3, 7, 2, 1, 0, 5, 6, 4, 11, 10, 16, 17, 15, 27], false⟩, ⟨⟨(some 51), (.load (.tmp 50)), (some ((some 41), false))⟩, [29, 20, 26, 28, 19, 14, 18, 13, 9, 12, 8, 3, 7, 2, 1, 0, 5, 6, 4, 11, 10, 16, 17, 15, 27], false⟩, ⟨⟨(some 52), (.bin .sub (.const (.int .i64 (1152921504606846976))) (.tmp 51)), (some ((some 41), false))⟩, [30, 20, 29, 26, 28, 19, 14, 18, 13, 9, 12, 8, 3, 7, 2, 1, 0, 5, 6, 4, 11, 10, 16, 17, 15, 27], false⟩, ⟨⟨(some 53), (.bin .gtr (.tmp 46) (.tmp 52)), (some ((some 41), false))⟩, [25, 31, 20, 24, 21, 23, 19, 14, 18, 13, 9, 12, 8, 3, 7, 2, 1, 0, 5, 6, 4, 11, 10, 16, 17, 15, 22, 30, 29, 26, 28, 27], false⟩, ⟨⟨(some 54), (.pick (.tmp 41) (.const (.bool true)) (.tmp 53)), none⟩, [20, 32, 19, 14, 18, 13, 9, 12, 8, 3, 7, 2, 1, 0, 5, 6, 4, 11, 10, 16, 17, 15, 25, 31, 24, 21, 23, 22, 30, 29, 26, 28, 27], false⟩]) (.cond (.tmp 54) (.seq (.ops [⟨(some 2), (.mv (.const (.slice none 0 0))), none⟩, ⟨(some 3), (.mv (.const (.bool false))), none⟩]) .ret) .skip)) (.drawn [⟨⟨(some 55), (.mv (.tmp 4)), none⟩, [], false⟩, ⟨⟨(some 56), (.off (.tmp 6) 1), none⟩, [], false⟩, ⟨⟨(some 57), (.load (.tmp 56)), none⟩, [1], false⟩, ⟨⟨(some 58), (.ixS 1 (.tmp 55) (.tmp 57)), none⟩, [0, 2, 1], false⟩, ⟨⟨(some 59), (.load (.tmp 58)), none⟩, [3, 0, 2, 1], false⟩, ⟨⟨(some 60), (.mv (.tmp 4)), none⟩, [], false⟩, ⟨⟨(some 61), (.off (.tmp 6) 2), none⟩, [], false⟩, ⟨⟨(some 62), (.load (.tmp 61)), none⟩, [6], false⟩, ⟨⟨(some 63), (.ixS 1 (.tmp 60) (.tmp 62)), none⟩, [5, 7, 6], false⟩, ⟨⟨(some 64), (.load (.tmp 63)), none⟩, [8, 5, 7, 6], false⟩, ⟨⟨(some 65), (.bin .add (.tmp 59) (.tmp 64)), none⟩, [4, 9, 3, 0, 2, 1, 8, 5, 7, 6], false⟩, ⟨⟨(some 7), (.mv (.tmp 65)), none⟩, [10, 0, 1, 2, 3, 4, 5, 6, 7, 8, 9], false⟩]))))))) (.ops [⟨(some 134), (.mv (.tmp 4)), none⟩, ⟨(some 135), (.mv (.tmp 7)), none⟩, ⟨(some 136), (.bslice 3 #[(.int .i64 (0))] 1 1 #[(0, (.tmp 135))]), none⟩, ⟨(some 137), (.append 3 1 8 (.tmp 134) (.tmp 136)), none⟩, ⟨(some 4), (.mv (.tmp 137)), none⟩]))))) (.ops [⟨(some 15), (.mv (.tmp 5)), none⟩, ⟨(some 16), (.bin .add (.tmp 15) (.const (.int .i64 (1)))), none⟩, ⟨(some 5), (.mv (.tmp 16)), none⟩])))))) (.seq (.ops [⟨(some 138), (.mv (.tmp 4)), none⟩, ⟨(some 2), (.mv (.tmp 138)), none⟩, ⟨(some 3), (.mv (.const (.bool true))), none⟩]) .ret)))))⟩
theorem a35_eq : compFunc Tryd.prog [0] 35 = some a35 := by kernel_rfl
def a21 : AFunc := ⟨21, [(.tmp 4)], (.seq (.ops [⟨(some 4), (.mv (.const (.bool false))), none⟩]) (.seq (.seq (.ops [⟨(some 5), (.mv (.const (.int .i64 (0)))), none⟩]) (.block 0 (.loop (.seq (.seq (.ops [⟨(some 6), (.mv (.tmp 5)), none⟩, ⟨(some 7), (.mv (.tmp 0)), none⟩, ⟨(some 8), (.lenS (.tmp 7)), none⟩, ⟨(some 9), (.bin .lss (.tmp 6) (.tmp 8)), none⟩]) (.cond (.tmp 9) .skip (.exit 0))) (.seq (.block 1 (.seq (.ops [⟨(some 12), (.mv (.tmp 0)), none⟩, ⟨(some 13), (.mv (.tmp 5)), none⟩, ⟨(some 14), (.ixStr (.tmp 12) (.tmp 13)), none⟩, ⟨(some 15), (.call (.func 43) #[(.tmp 14)]), none⟩, ⟨(some 16), (.un .not (.tmp 15)), none⟩]) (.cond (.tmp 16) (.seq (.ops [⟨(some 4), (.mv (.const (.bool false))), none⟩]) .ret) .skip))) (.ops [⟨(some 10), (.mv (.tmp 5)), none⟩, ⟨(some 11), (.bin .add (.tmp 10) (.const (.int .i64 (1)))), none⟩, ⟨(some 5), (.mv (.tmp 11)), none⟩])))))) (.seq (.ops [⟨(some 17), (.mv (.tmp 0)), none⟩, ⟨(some 18), (.lenS (.tmp 17)), none⟩, ⟨(some 19), (.mv (.tmp 1)), none⟩, ⟨(some 20), (.bin .leq (.tmp 18) (.tmp 19)), none⟩, ⟨(some 4), (.mv (.tmp 20)), none⟩]) .ret)))⟩
theorem a21_eq : compFunc Tryd.prog [0] 21 = some a21 := by kernel_rfl
def a43 : AFunc := ⟨17, [(.tmp 2)], (.seq (.ops [⟨(some 2), (.mv (.const (.bool false))), none⟩]) (.seq (.ops [⟨(some 3), (.mv (.tmp 0)), none⟩, ⟨(some 4), (.bin .geq (.tmp 3) (.const (.int .u8 (97)))), none⟩, ⟨(some 5), (.mv (.tmp 4)), none⟩, ⟨(some 6), (.mv (.tmp 0)), (some ((some 5), true))⟩, ⟨(some 7), (.bin .leq (.tmp 6) (.const (.int .u8 (104)))), (some ((some 5), true))⟩, ⟨(some 8), (.pick (.tmp 5) (.tmp 7) (.const (.bool false))), none⟩, ⟨(some 9), (.mv (.tmp 8)), none⟩, ⟨(some 10), (.mv (.tmp 0)), (some ((some 9), false))⟩, ⟨(some 11), (.bin .geq (.tmp 10) (.const (.int .u8 (65)))), (some ((some 9), false))⟩, ⟨(some 12), (.mv (.tmp 11)), (some ((some 9), false))⟩, ⟨(some 13), (.mv (.tmp 0)), (some ((some 12), true))⟩, ⟨(some 14), (.bin .leq (.tmp 13) (.const (.int .u8 (72)))), (some ((some 12), true))⟩, ⟨(some 15), (.pick (.tmp 12) (.tmp 14) (.const (.bool false))), (some ((some 9), false))⟩, ⟨(some 16), (.pick (.tmp 9) (.const (.bool true)) (.tmp 15)), none⟩, ⟨(some 2), (.mv (.tmp 16)), none⟩]) .ret))⟩
theorem a43_eq : compFunc Tryd.prog [0] 43 = some a43 := by kernel_rfl
theorem K43 (c : Int) (H : Hp) : K 43 #[.int .u8 c] H = some (.ret (.bool (isLB c)) H) := by
  refine K_call a43_eq (by simp [a43]) ?_
  have hi : isLB c = (decide (97 ≤ c ∧ c ≤ 104) || decide (65 ≤ c ∧ c ≤ 72)) := by
    unfold isLB index
    by_cases h1 : 97 ≤ c ∧ c < 105
    · rw [if_pos h1]
      have : (97 ≤ c ∧ c ≤ 104) := by omega
      simp [this]; omega
    · rw [if_neg h1]
      have n1 : ¬ (97 ≤ c ∧ c ≤ 104) := by omega
      by_cases h2 : 65 ≤ c ∧ c < 73
      · rw [if_pos h2]
        have : (65 ≤ c ∧ c ≤ 72) := by omega
        simp [this]; omega
      · rw [if_neg h2]
        have n2 : ¬ (65 ≤ c ∧ c ≤ 72) := by omega
        simp [n1, n2]
  have hb : isLB c = (decide (c ≥ 97) && decide (c ≤ 104) || decide (c ≥ 65) && decide (c ≤ 72)) := by rw [hi]; simp only [Bool.decide_and, ge_iff_le]
  unfold a43
  cases d1 : decide (c ≥ 97) <;> cases d2 : decide (c ≤ 104) <;> cases d3 : decide (c ≥ 65) <;> cases d4 : decide (c ≤ 72)
  all_goals
    rw [d1, d2, d3, d4] at hb
    rw [hb]
    repeat' (first
        | refine W.seq ?_
        | refine W.wo ?_
        | refine WO.nil ?_
        | (apply WO.callv; (case e => (simp only [go_sem, Nat.reduceEqDiff, Nat.reduceAdd, reduceIte, d1, d2, d3, d4]; first | done | with_reducible rfl)); (case c => (simp only [go_sem, Nat.reduceEqDiff, Nat.reduceAdd, reduceIte, d1, d2, d3, d4]; first | done | with_reducible rfl)))
        | (apply WO.panicv; (case e => (simp only [go_sem, Nat.reduceEqDiff, Nat.reduceAdd, reduceIte, d1, d2, d3, d4]; first | done | with_reducible rfl)))
        | (apply WO.ok; (case e => (simp only [go_sem, Nat.reduceEqDiff, Nat.reduceAdd, reduceIte, d1, d2, d3, d4]; first | done | with_reducible rfl)))
        | (apply WO.guardT; (case hj => (simp only [go_sem, Nat.reduceEqDiff, Nat.reduceAdd, reduceIte, d1, d2, d3, d4]; first | done | with_reducible rfl)))
        | (apply WO.guardF; (case hj => (simp only [go_sem, Nat.reduceEqDiff, Nat.reduceAdd, reduceIte, d1, d2, d3, d4]; first | done | with_reducible rfl)))
        | (apply WO.guardU; (case hj => (simp only [go_sem, Nat.reduceEqDiff, Nat.reduceAdd, reduceIte, d1, d2, d3, d4]; first | done | with_reducible rfl)))
        | refine W.skip ?_
        | refine W.ret ?_
        | refine W.exit ?_
        | refine W.block ?_
        | (apply W.branch; (case e => (simp only [go_sem, Nat.reduceEqDiff, Nat.reduceAdd, reduceIte, d1, d2, d3, d4]; first | done | with_reducible rfl)))
        | refine WD.nil ?_
        | (apply WD.callv; (case e => (simp only [go_sem, Nat.reduceEqDiff, Nat.reduceAdd, reduceIte, d1, d2, d3, d4]; first | done | with_reducible rfl)); (case c => (simp only [go_sem, Nat.reduceEqDiff, Nat.reduceAdd, reduceIte, d1, d2, d3, d4]; first | done | with_reducible rfl)); (case hi => first | trivial | (simp only [nx_H]; done)); (case hc => rfl))
        | (apply WD.ok; (case e => (simp only [go_sem, Nat.reduceEqDiff, Nat.reduceAdd, reduceIte, d1, d2, d3, d4]; first | done | with_reducible rfl)); (case hi => first | trivial | (simp only [nx_H]; done)); (case hc => first | rfl | (simp only [eqV, beq_self_eq_true, Bool.and_self, Bool.or_true, Bool.and_true, Option.isSome_some]; done)))
        | (apply WD.guardT; (case hj => (simp only [go_sem, Nat.reduceEqDiff, Nat.reduceAdd, reduceIte, d1, d2, d3, d4]; first | done | with_reducible rfl)); (case hi => first | trivial | (simp only [nx_H]; done)))
        | (apply WD.guardF; (case hj => (simp only [go_sem, Nat.reduceEqDiff, Nat.reduceAdd, reduceIte, d1, d2, d3, d4]; first | done | with_reducible rfl)); (case hi => first | trivial | (simp only [nx_H]; done)))
        | (apply WD.guardU; (case hj => (simp only [go_sem, Nat.reduceEqDiff, Nat.reduceAdd, reduceIte, d1, d2, d3, d4]; first | done | with_reducible rfl)); (case hi => first | trivial | (simp only [nx_H]; done)))
        | with_reducible exact tf
        | with_reducible exact ft
        | intro _)
    all_goals exact leave0 (by (simp only [go_sem, Nat.reduceEqDiff, Nat.reduceAdd, reduceIte, Bool.and_self, Bool.or_self, Bool.and_false, Bool.or_false, Bool.false_and, Bool.false_or, Bool.true_or, Bool.true_and, Bool.and_true, Bool.or_true]; first | done | with_reducible rfl)) (res1 (by (simp only [go_sem, Nat.reduceEqDiff, Nat.reduceAdd, reduceIte, Bool.and_self, Bool.or_self, Bool.and_false, Bool.or_false, Bool.false_and, Bool.false_or, Bool.true_or, Bool.true_and, Bool.and_true, Bool.or_true]; first | done | with_reducible rfl)) (by intro c h; cases h)) (by (simp only [go_sem, Nat.reduceEqDiff, Nat.reduceAdd, reduceIte, Bool.and_self, Bool.or_self, Bool.and_false, Bool.or_false, Bool.false_and, Bool.false_or, Bool.true_or, Bool.true_and, Bool.and_true, Bool.or_true]; first | done | with_reducible rfl))
theorem K21 (w : ByteArray) (n : Int) (H : Hp) (hw : w.size ≤ 9223372036854775807) : K 21 #[.string w, .int .i64 n] H = some (.ret (.bool (allLB w && decide ((w.size : Int) ≤ n))) H) := by
  refine K_call a21_eq (by simp [a21]) ?_
  unfold a21
  repeat' (first
      | refine W.seq ?_
      | refine W.wo ?_
      | refine WO.nil ?_
      | (apply WO.callv; (case e => (simp only [go_sem, Nat.reduceEqDiff, Nat.reduceAdd, reduceIte]; first | done | with_reducible rfl)); (case c => (simp only [go_sem, Nat.reduceEqDiff, Nat.reduceAdd, reduceIte]; first | done | with_reducible rfl)))
      | (apply WO.panicv; (case e => (simp only [go_sem, Nat.reduceEqDiff, Nat.reduceAdd, reduceIte]; first | done | with_reducible rfl)))
      | (apply WO.ok; (case e => (simp only [go_sem, Nat.reduceEqDiff, Nat.reduceAdd, reduceIte]; first | done | with_reducible rfl)))
      | (apply WO.guardT; (case hj => (simp only [go_sem, Nat.reduceEqDiff, Nat.reduceAdd, reduceIte]; first | done | with_reducible rfl)))
      | (apply WO.guardF; (case hj => (simp only [go_sem, Nat.reduceEqDiff, Nat.reduceAdd, reduceIte]; first | done | with_reducible rfl)))
      | (apply WO.guardU; (case hj => (simp only [go_sem, Nat.reduceEqDiff, Nat.reduceAdd, reduceIte]; first | done | with_reducible rfl)))
      | refine W.skip ?_
      | refine W.ret ?_
      | refine W.exit ?_
      | refine W.block ?_
      | (apply W.branch; (case e => (simp only [go_sem, Nat.reduceEqDiff, Nat.reduceAdd, reduceIte]; first | done | with_reducible rfl)))
      | refine WD.nil ?_
      | (apply WD.callv; (case e => (simp only [go_sem, Nat.reduceEqDiff, Nat.reduceAdd, reduceIte]; first | done | with_reducible rfl)); (case c => (simp only [go_sem, Nat.reduceEqDiff, Nat.reduceAdd, reduceIte]; first | done | with_reducible rfl)); (case hi => first | trivial | (simp only [nx_H]; done)); (case hc => rfl))
      | (apply WD.ok; (case e => (simp only [go_sem, Nat.reduceEqDiff, Nat.reduceAdd, reduceIte]; first | done | with_reducible rfl)); (case hi => first | trivial | (simp only [nx_H]; done)); (case hc => first | rfl | (simp only [eqV, beq_self_eq_true, Bool.and_self, Bool.or_true, Bool.and_true, Option.isSome_some]; done)))
      | (apply WD.guardT; (case hj => (simp only [go_sem, Nat.reduceEqDiff, Nat.reduceAdd, reduceIte]; first | done | with_reducible rfl)); (case hi => first | trivial | (simp only [nx_H]; done)))
      | (apply WD.guardF; (case hj => (simp only [go_sem, Nat.reduceEqDiff, Nat.reduceAdd, reduceIte]; first | done | with_reducible rfl)); (case hi => first | trivial | (simp only [nx_H]; done)))
      | (apply WD.guardU; (case hj => (simp only [go_sem, Nat.reduceEqDiff, Nat.reduceAdd, reduceIte]; first | done | with_reducible rfl)); (case hi => first | trivial | (simp only [nx_H]; done)))
      | with_reducible exact tf
      | with_reducible exact ft
      | intro _)
  refine W.loop (fun m st => ∃ i : Nat, i ≤ w.size ∧ m = w.size - i ∧ st.get 5 = .int .i64 (i : Int) ∧ st.get 0 = .string w ∧ st.get 1 = .int .i64 n ∧ st.ds = [] ∧ st.H = H ∧ ∀ j : Nat, j < i → isLB (bt w (j : Int)) = true) w.size ⟨0, by omega, by omega, by (simp only [go_sem, Nat.reduceEqDiff, Nat.reduceAdd, reduceIte]; first | done | rfl), by (simp only [go_sem, Nat.reduceEqDiff, Nat.reduceAdd, reduceIte]; first | done | with_reducible rfl), by (simp only [go_sem, Nat.reduceEqDiff, Nat.reduceAdd, reduceIte]; first | done | with_reducible rfl), by (simp only [go_sem, Nat.reduceEqDiff, Nat.reduceAdd, reduceIte]; first | done | with_reducible rfl), by (simp only [go_sem, Nat.reduceEqDiff, Nat.reduceAdd, reduceIte]; first | done | with_reducible rfl), fun j hj => absurd hj (by omega)⟩ ?_
  rintro m st ⟨i, hi, rfl, g5, g0, g1, gd, gH, hno⟩
  by_cases hlt : i < w.size
  · have d1 : decide ((i : Int) < (w.size : Int)) = true := by simp; omega
    have h0 : (0 ≤ (i : Int)) = True := by simp
    have hb : w[((i : Nat) : Int).toNat]? = some (w[i]'hlt) := by rw [Int.toNat_natCast]; simp [hlt]
    have hbt : ((w[i]'hlt).toNat : Int) = bt w (i : Int) := bt_at w (i : Int) hlt
    have hww : IntKind.i64.wrap ((i : Int) + 1) = ((i + 1 : Nat) : Int) := by simp [IntKind.wrap, IntKind.bits, IntKind.signed]; omega
    have h43 := fun c => K43 c H
    cases hl : isLB (bt w (i : Int)) with
    | true =>
      repeat' (first
          | refine W.seq ?_
          | refine W.wo ?_
          | refine WO.nil ?_
          | (apply WO.callv; (case e => (simp only [go_sem, Nat.reduceEqDiff, Nat.reduceAdd, reduceIte, g5, g0, g1, gH, d1, h0, hb, hbt, hww, h43, hl]; first | done | with_reducible rfl)); (case c => (simp only [go_sem, Nat.reduceEqDiff, Nat.reduceAdd, reduceIte, g5, g0, g1, gH, d1, h0, hb, hbt, hww, h43, hl]; first | done | with_reducible rfl)))
          | (apply WO.panicv; (case e => (simp only [go_sem, Nat.reduceEqDiff, Nat.reduceAdd, reduceIte, g5, g0, g1, gH, d1, h0, hb, hbt, hww, h43, hl]; first | done | with_reducible rfl)))
          | (apply WO.ok; (case e => (simp only [go_sem, Nat.reduceEqDiff, Nat.reduceAdd, reduceIte, g5, g0, g1, gH, d1, h0, hb, hbt, hww, h43, hl]; first | done | with_reducible rfl)))
          | (apply WO.guardT; (case hj => (simp only [go_sem, Nat.reduceEqDiff, Nat.reduceAdd, reduceIte, g5, g0, g1, gH, d1, h0, hb, hbt, hww, h43, hl]; first | done | with_reducible rfl)))
          | (apply WO.guardF; (case hj => (simp only [go_sem, Nat.reduceEqDiff, Nat.reduceAdd, reduceIte, g5, g0, g1, gH, d1, h0, hb, hbt, hww, h43, hl]; first | done | with_reducible rfl)))
          | (apply WO.guardU; (case hj => (simp only [go_sem, Nat.reduceEqDiff, Nat.reduceAdd, reduceIte, g5, g0, g1, gH, d1, h0, hb, hbt, hww, h43, hl]; first | done | with_reducible rfl)))
          | refine W.skip ?_
          | refine W.ret ?_
          | refine W.exit ?_
          | refine W.block ?_
          | (apply W.branch; (case e => (simp only [go_sem, Nat.reduceEqDiff, Nat.reduceAdd, reduceIte, g5, g0, g1, gH, d1, h0, hb, hbt, hww, h43, hl]; first | done | with_reducible rfl)))
          | refine WD.nil ?_
          | (apply WD.callv; (case e => (simp only [go_sem, Nat.reduceEqDiff, Nat.reduceAdd, reduceIte, g5, g0, g1, gH, d1, h0, hb, hbt, hww, h43, hl]; first | done | with_reducible rfl)); (case c => (simp only [go_sem, Nat.reduceEqDiff, Nat.reduceAdd, reduceIte, g5, g0, g1, gH, d1, h0, hb, hbt, hww, h43, hl]; first | done | with_reducible rfl)); (case hi => first | trivial | (simp only [nx_H]; done)); (case hc => rfl))
          | (apply WD.ok; (case e => (simp only [go_sem, Nat.reduceEqDiff, Nat.reduceAdd, reduceIte, g5, g0, g1, gH, d1, h0, hb, hbt, hww, h43, hl]; first | done | with_reducible rfl)); (case hi => first | trivial | (simp only [nx_H]; done)); (case hc => first | rfl | (simp only [eqV, beq_self_eq_true, Bool.and_self, Bool.or_true, Bool.and_true, Option.isSome_some]; done)))
          | (apply WD.guardT; (case hj => (simp only [go_sem, Nat.reduceEqDiff, Nat.reduceAdd, reduceIte, g5, g0, g1, gH, d1, h0, hb, hbt, hww, h43, hl]; first | done | with_reducible rfl)); (case hi => first | trivial | (simp only [nx_H]; done)))
          | (apply WD.guardF; (case hj => (simp only [go_sem, Nat.reduceEqDiff, Nat.reduceAdd, reduceIte, g5, g0, g1, gH, d1, h0, hb, hbt, hww, h43, hl]; first | done | with_reducible rfl)); (case hi => first | trivial | (simp only [nx_H]; done)))
          | (apply WD.guardU; (case hj => (simp only [go_sem, Nat.reduceEqDiff, Nat.reduceAdd, reduceIte, g5, g0, g1, gH, d1, h0, hb, hbt, hww, h43, hl]; first | done | with_reducible rfl)); (case hi => first | trivial | (simp only [nx_H]; done)))
          | with_reducible exact tf
          | with_reducible exact ft
          | intro _)
      refine ⟨w.size - (i + 1), by omega, i + 1, by omega, rfl, by (simp only [go_sem, Nat.reduceEqDiff, Nat.reduceAdd, reduceIte, g5]; first | done | with_reducible rfl), by (simp only [go_sem, Nat.reduceEqDiff, Nat.reduceAdd, reduceIte, g0]; first | done | with_reducible rfl), by (simp only [go_sem, Nat.reduceEqDiff, Nat.reduceAdd, reduceIte, g1]; first | done | with_reducible rfl), by (simp only [go_sem, Nat.reduceEqDiff, Nat.reduceAdd, reduceIte, gd]; first | done | with_reducible rfl), by (simp only [go_sem, Nat.reduceEqDiff, Nat.reduceAdd, reduceIte, gH]; first | done | with_reducible rfl), fun j hj => ?_⟩
      by_cases hj' : j < i
      · exact hno j hj'
      · rw [show j = i by omega]; exact hl
    | false =>
      rw [allLB_no hlt hl, Bool.false_and]
      repeat' (first
          | refine W.seq ?_
          | refine W.wo ?_
          | refine WO.nil ?_
          | (apply WO.callv; (case e => (simp only [go_sem, Nat.reduceEqDiff, Nat.reduceAdd, reduceIte, g5, g0, g1, gH, d1, h0, hb, hbt, hww, h43, hl]; first | done | with_reducible rfl)); (case c => (simp only [go_sem, Nat.reduceEqDiff, Nat.reduceAdd, reduceIte, g5, g0, g1, gH, d1, h0, hb, hbt, hww, h43, hl]; first | done | with_reducible rfl)))
          | (apply WO.panicv; (case e => (simp only [go_sem, Nat.reduceEqDiff, Nat.reduceAdd, reduceIte, g5, g0, g1, gH, d1, h0, hb, hbt, hww, h43, hl]; first | done | with_reducible rfl)))
          | (apply WO.ok; (case e => (simp only [go_sem, Nat.reduceEqDiff, Nat.reduceAdd, reduceIte, g5, g0, g1, gH, d1, h0, hb, hbt, hww, h43, hl]; first | done | with_reducible rfl)))
          | (apply WO.guardT; (case hj => (simp only [go_sem, Nat.reduceEqDiff, Nat.reduceAdd, reduceIte, g5, g0, g1, gH, d1, h0, hb, hbt, hww, h43, hl]; first | done | with_reducible rfl)))
          | (apply WO.guardF; (case hj => (simp only [go_sem, Nat.reduceEqDiff, Nat.reduceAdd, reduceIte, g5, g0, g1, gH, d1, h0, hb, hbt, hww, h43, hl]; first | done | with_reducible rfl)))
          | (apply WO.guardU; (case hj => (simp only [go_sem, Nat.reduceEqDiff, Nat.reduceAdd, reduceIte, g5, g0, g1, gH, d1, h0, hb, hbt, hww, h43, hl]; first | done | with_reducible rfl)))
          | refine W.skip ?_
          | refine W.ret ?_
          | refine W.exit ?_
          | refine W.block ?_
          | (apply W.branch; (case e => (simp only [go_sem, Nat.reduceEqDiff, Nat.reduceAdd, reduceIte, g5, g0, g1, gH, d1, h0, hb, hbt, hww, h43, hl]; first | done | with_reducible rfl)))
          | refine WD.nil ?_
          | (apply WD.callv; (case e => (simp only [go_sem, Nat.reduceEqDiff, Nat.reduceAdd, reduceIte, g5, g0, g1, gH, d1, h0, hb, hbt, hww, h43, hl]; first | done | with_reducible rfl)); (case c => (simp only [go_sem, Nat.reduceEqDiff, Nat.reduceAdd, reduceIte, g5, g0, g1, gH, d1, h0, hb, hbt, hww, h43, hl]; first | done | with_reducible rfl)); (case hi => first | trivial | (simp only [nx_H]; done)); (case hc => rfl))
          | (apply WD.ok; (case e => (simp only [go_sem, Nat.reduceEqDiff, Nat.reduceAdd, reduceIte, g5, g0, g1, gH, d1, h0, hb, hbt, hww, h43, hl]; first | done | with_reducible rfl)); (case hi => first | trivial | (simp only [nx_H]; done)); (case hc => first | rfl | (simp only [eqV, beq_self_eq_true, Bool.and_self, Bool.or_true, Bool.and_true, Option.isSome_some]; done)))
          | (apply WD.guardT; (case hj => (simp only [go_sem, Nat.reduceEqDiff, Nat.reduceAdd, reduceIte, g5, g0, g1, gH, d1, h0, hb, hbt, hww, h43, hl]; first | done | with_reducible rfl)); (case hi => first | trivial | (simp only [nx_H]; done)))
          | (apply WD.guardF; (case hj => (simp only [go_sem, Nat.reduceEqDiff, Nat.reduceAdd, reduceIte, g5, g0, g1, gH, d1, h0, hb, hbt, hww, h43, hl]; first | done | with_reducible rfl)); (case hi => first | trivial | (simp only [nx_H]; done)))
          | (apply WD.guardU; (case hj => (simp only [go_sem, Nat.reduceEqDiff, Nat.reduceAdd, reduceIte, g5, g0, g1, gH, d1, h0, hb, hbt, hww, h43, hl]; first | done | with_reducible rfl)); (case hi => first | trivial | (simp only [nx_H]; done)))
          | with_reducible exact tf
          | with_reducible exact ft
          | intro _)
      exact leave0 (by (simp only [go_sem, Nat.reduceEqDiff, Nat.reduceAdd, reduceIte, gd, gH]; first | done | with_reducible rfl)) (res1 (by (simp only [go_sem, Nat.reduceEqDiff, Nat.reduceAdd, reduceIte, gd, gH]; first | done | with_reducible rfl)) (by intro c h; cases h)) (by (simp only [go_sem, Nat.reduceEqDiff, Nat.reduceAdd, reduceIte, gd, gH]; first | done | with_reducible rfl))
  · have d1 : decide ((i : Int) < (w.size : Int)) = false := by simp; omega
    rw [allLB_yes (s := w) (fun j hj => hno j (by omega)), Bool.true_and]
    repeat' (first
        | refine W.seq ?_
        | refine W.wo ?_
        | refine WO.nil ?_
        | (apply WO.callv; (case e => (simp only [go_sem, Nat.reduceEqDiff, Nat.reduceAdd, reduceIte, g5, g0, g1, gH, d1]; first | done | with_reducible rfl)); (case c => (simp only [go_sem, Nat.reduceEqDiff, Nat.reduceAdd, reduceIte, g5, g0, g1, gH, d1]; first | done | with_reducible rfl)))
        | (apply WO.panicv; (case e => (simp only [go_sem, Nat.reduceEqDiff, Nat.reduceAdd, reduceIte, g5, g0, g1, gH, d1]; first | done | with_reducible rfl)))
        | (apply WO.ok; (case e => (simp only [go_sem, Nat.reduceEqDiff, Nat.reduceAdd, reduceIte, g5, g0, g1, gH, d1]; first | done | with_reducible rfl)))
        | (apply WO.guardT; (case hj => (simp only [go_sem, Nat.reduceEqDiff, Nat.reduceAdd, reduceIte, g5, g0, g1, gH, d1]; first | done | with_reducible rfl)))
        | (apply WO.guardF; (case hj => (simp only [go_sem, Nat.reduceEqDiff, Nat.reduceAdd, reduceIte, g5, g0, g1, gH, d1]; first | done | with_reducible rfl)))
        | (apply WO.guardU; (case hj => (simp only [go_sem, Nat.reduceEqDiff, Nat.reduceAdd, reduceIte, g5, g0, g1, gH, d1]; first | done | with_reducible rfl)))
        | refine W.skip ?_
        | refine W.ret ?_
        | refine W.exit ?_
        | refine W.block ?_
        | (apply W.branch; (case e => (simp only [go_sem, Nat.reduceEqDiff, Nat.reduceAdd, reduceIte, g5, g0, g1, gH, d1]; first | done | with_reducible rfl)))
        | refine WD.nil ?_
        | (apply WD.callv; (case e => (simp only [go_sem, Nat.reduceEqDiff, Nat.reduceAdd, reduceIte, g5, g0, g1, gH, d1]; first | done | with_reducible rfl)); (case c => (simp only [go_sem, Nat.reduceEqDiff, Nat.reduceAdd, reduceIte, g5, g0, g1, gH, d1]; first | done | with_reducible rfl)); (case hi => first | trivial | (simp only [nx_H]; done)); (case hc => rfl))
        | (apply WD.ok; (case e => (simp only [go_sem, Nat.reduceEqDiff, Nat.reduceAdd, reduceIte, g5, g0, g1, gH, d1]; first | done | with_reducible rfl)); (case hi => first | trivial | (simp only [nx_H]; done)); (case hc => first | rfl | (simp only [eqV, beq_self_eq_true, Bool.and_self, Bool.or_true, Bool.and_true, Option.isSome_some]; done)))
        | (apply WD.guardT; (case hj => (simp only [go_sem, Nat.reduceEqDiff, Nat.reduceAdd, reduceIte, g5, g0, g1, gH, d1]; first | done | with_reducible rfl)); (case hi => first | trivial | (simp only [nx_H]; done)))
        | (apply WD.guardF; (case hj => (simp only [go_sem, Nat.reduceEqDiff, Nat.reduceAdd, reduceIte, g5, g0, g1, gH, d1]; first | done | with_reducible rfl)); (case hi => first | trivial | (simp only [nx_H]; done)))
        | (apply WD.guardU; (case hj => (simp only [go_sem, Nat.reduceEqDiff, Nat.reduceAdd, reduceIte, g5, g0, g1, gH, d1]; first | done | with_reducible rfl)); (case hi => first | trivial | (simp only [nx_H]; done)))
        | with_reducible exact tf
        | with_reducible exact ft
        | intro _)
    exact leave0 (by (simp only [go_sem, Nat.reduceEqDiff, Nat.reduceAdd, reduceIte, gd, gH]; first | done | with_reducible rfl)) (res1 (by (simp only [go_sem, Nat.reduceEqDiff, Nat.reduceAdd, reduceIte, gd, gH]; first | done | with_reducible rfl)) (by intro c h; cases h)) (by (simp only [go_sem, Nat.reduceEqDiff, Nat.reduceAdd, reduceIte, gd, gH]; first | done | with_reducible rfl))
section
variable {bA : Nat} {l0 : List S55} {H : Hp} {u : UT} {ro : Bool}
structure LR (H : Hp) (l0 : List S55) (bA : Nat) (done : List Int) (rest : List S55) (v : Value) (st : St) : Prop where
  len : l0.length = done.length + rest.length
  drop : l0.drop done.length = rest
  eq : lensF done rest = lensF [] l0
  good : goodL done
  g0 : st.get 0 = .slice (some ⟨bA, 0, some 2⟩) l0.length l0.length
  g5 : st.get 5 = .int .i64 done.length
  g4 : st.get 4 = v
  gd : st.ds = []
  keep : Keep H st.H
  out : OutS H st.H v done
def Q35 (H : Hp) (l0 : List S55) (ex : AExit) (st : St) : Prop := ex = .ret ∧ st.ds = [] ∧ Keep H st.H ∧ ((∃ out v, lens l0 = some out ∧ st.get 2 = v ∧ st.get 3 = .bool true ∧ OutS H st.H v out ∧ out.length = l0.length ∧ goodL out) ∨ (lens l0 = none ∧ st.get 2 = .slice none 0 0 ∧ st.get 3 = .bool false))
set_option maxHeartbeats 8000000 in
theorem W35 (hsz : ∀ x ∈ l0, x.f0.size ≤ 9223372036854775807) (hbA : bA < H.size) (hA : H.get bA = some (.cells (l0.flatMap enc55) u ro)) : W K a35.body { t := enterT 0 #[.slice (some ⟨bA, 0, some 2⟩) l0.length l0.length].toList .nil, H, ds := [], df := false, pm := none } (Q35 H l0) := by
  unfold a35
  by_cases hn : 4000 < l0.length
  · have hn1 : decide ((l0.length : Int) > 4000) = true := by simp; omega
    repeat' (first
        | refine W.seq ?_
        | refine W.wo ?_
        | refine WO.nil ?_
        | (apply WO.callv; (case e => (simp only [go_sem, Nat.reduceEqDiff, Nat.reduceAdd, reduceIte, hn1]; first | done | with_reducible rfl)); (case c => (simp only [go_sem, Nat.reduceEqDiff, Nat.reduceAdd, reduceIte, hn1]; first | done | with_reducible rfl)))
        | (apply WO.panicv; (case e => (simp only [go_sem, Nat.reduceEqDiff, Nat.reduceAdd, reduceIte, hn1]; first | done | with_reducible rfl)))
        | (apply WO.ok; (case e => (simp only [go_sem, Nat.reduceEqDiff, Nat.reduceAdd, reduceIte, hn1]; first | done | with_reducible rfl)))
        | (apply WO.guardT; (case hj => (simp only [go_sem, Nat.reduceEqDiff, Nat.reduceAdd, reduceIte, hn1]; first | done | with_reducible rfl)))
        | (apply WO.guardF; (case hj => (simp only [go_sem, Nat.reduceEqDiff, Nat.reduceAdd, reduceIte, hn1]; first | done | with_reducible rfl)))
        | (apply WO.guardU; (case hj => (simp only [go_sem, Nat.reduceEqDiff, Nat.reduceAdd, reduceIte, hn1]; first | done | with_reducible rfl)))
        | refine W.skip ?_
        | refine W.ret ?_
        | refine W.exit ?_
        | refine W.block ?_
        | (apply W.branch; (case e => (simp only [go_sem, Nat.reduceEqDiff, Nat.reduceAdd, reduceIte, hn1]; first | done | with_reducible rfl)))
        | refine WD.nil ?_
        | (apply WD.callv; (case e => (simp only [go_sem, Nat.reduceEqDiff, Nat.reduceAdd, reduceIte, hn1]; first | done | with_reducible rfl)); (case c => (simp only [go_sem, Nat.reduceEqDiff, Nat.reduceAdd, reduceIte, hn1]; first | done | with_reducible rfl)); (case hi => first | trivial | (simp only [nx_H]; done)); (case hc => rfl))
        | (apply WD.ok; (case e => (simp only [go_sem, Nat.reduceEqDiff, Nat.reduceAdd, reduceIte, hn1]; first | done | with_reducible rfl)); (case hi => first | trivial | (simp only [nx_H]; done)); (case hc => first | rfl | (simp only [eqV, beq_self_eq_true, Bool.and_self, Bool.or_true, Bool.and_true, Option.isSome_some]; done)))
        | (apply WD.guardT; (case hj => (simp only [go_sem, Nat.reduceEqDiff, Nat.reduceAdd, reduceIte, hn1]; first | done | with_reducible rfl)); (case hi => first | trivial | (simp only [nx_H]; done)))
        | (apply WD.guardF; (case hj => (simp only [go_sem, Nat.reduceEqDiff, Nat.reduceAdd, reduceIte, hn1]; first | done | with_reducible rfl)); (case hi => first | trivial | (simp only [nx_H]; done)))
        | (apply WD.guardU; (case hj => (simp only [go_sem, Nat.reduceEqDiff, Nat.reduceAdd, reduceIte, hn1]; first | done | with_reducible rfl)); (case hi => first | trivial | (simp only [nx_H]; done)))
        | with_reducible exact tf
        | with_reducible exact ft
        | intro _)
    exact ⟨rfl, by (simp only [go_sem, Nat.reduceEqDiff, Nat.reduceAdd, reduceIte]; first | done | with_reducible rfl), by simp only [nx_H]; exact Keep.refl H, .inr ⟨by unfold lens; rw [if_neg (by omega)], by (simp only [go_sem, Nat.reduceEqDiff, Nat.reduceAdd, reduceIte]; first | done | with_reducible rfl), by (simp only [go_sem, Nat.reduceEqDiff, Nat.reduceAdd, reduceIte]; first | done | with_reducible rfl)⟩⟩
  · have hn1 : decide ((l0.length : Int) > 4000) = false := by simp; omega
    repeat' (first
        | refine W.seq ?_
        | refine W.wo ?_
        | refine WO.nil ?_
        | (apply WO.callv; (case e => (simp only [go_sem, Nat.reduceEqDiff, Nat.reduceAdd, reduceIte, hn1]; first | done | with_reducible rfl)); (case c => (simp only [go_sem, Nat.reduceEqDiff, Nat.reduceAdd, reduceIte, hn1]; first | done | with_reducible rfl)))
        | (apply WO.panicv; (case e => (simp only [go_sem, Nat.reduceEqDiff, Nat.reduceAdd, reduceIte, hn1]; first | done | with_reducible rfl)))
        | (apply WO.ok; (case e => (simp only [go_sem, Nat.reduceEqDiff, Nat.reduceAdd, reduceIte, hn1]; first | done | with_reducible rfl)))
        | (apply WO.guardT; (case hj => (simp only [go_sem, Nat.reduceEqDiff, Nat.reduceAdd, reduceIte, hn1]; first | done | with_reducible rfl)))
        | (apply WO.guardF; (case hj => (simp only [go_sem, Nat.reduceEqDiff, Nat.reduceAdd, reduceIte, hn1]; first | done | with_reducible rfl)))
        | (apply WO.guardU; (case hj => (simp only [go_sem, Nat.reduceEqDiff, Nat.reduceAdd, reduceIte, hn1]; first | done | with_reducible rfl)))
        | refine W.skip ?_
        | refine W.ret ?_
        | refine W.exit ?_
        | refine W.block ?_
        | (apply W.branch; (case e => (simp only [go_sem, Nat.reduceEqDiff, Nat.reduceAdd, reduceIte, hn1]; first | done | with_reducible rfl)))
        | refine WD.nil ?_
        | (apply WD.callv; (case e => (simp only [go_sem, Nat.reduceEqDiff, Nat.reduceAdd, reduceIte, hn1]; first | done | with_reducible rfl)); (case c => (simp only [go_sem, Nat.reduceEqDiff, Nat.reduceAdd, reduceIte, hn1]; first | done | with_reducible rfl)); (case hi => first | trivial | (simp only [nx_H]; done)); (case hc => rfl))
        | (apply WD.ok; (case e => (simp only [go_sem, Nat.reduceEqDiff, Nat.reduceAdd, reduceIte, hn1]; first | done | with_reducible rfl)); (case hi => first | trivial | (simp only [nx_H]; done)); (case hc => first | rfl | (simp only [eqV, beq_self_eq_true, Bool.and_self, Bool.or_true, Bool.and_true, Option.isSome_some]; done)))
        | (apply WD.guardT; (case hj => (simp only [go_sem, Nat.reduceEqDiff, Nat.reduceAdd, reduceIte, hn1]; first | done | with_reducible rfl)); (case hi => first | trivial | (simp only [nx_H]; done)))
        | (apply WD.guardF; (case hj => (simp only [go_sem, Nat.reduceEqDiff, Nat.reduceAdd, reduceIte, hn1]; first | done | with_reducible rfl)); (case hi => first | trivial | (simp only [nx_H]; done)))
        | (apply WD.guardU; (case hj => (simp only [go_sem, Nat.reduceEqDiff, Nat.reduceAdd, reduceIte, hn1]; first | done | with_reducible rfl)); (case hi => first | trivial | (simp only [nx_H]; done)))
        | with_reducible exact tf
        | with_reducible exact ft
        | intro _)
    refine W.loop (fun m st => ∃ done rest v, m = rest.length ∧ LR H l0 bA done rest v st) l0.length ⟨[], l0, .slice none 0 0, rfl, by simp, rfl, rfl, fun v hv => (by cases hv), by (simp only [go_sem, Nat.reduceEqDiff, Nat.reduceAdd, reduceIte]; first | done | with_reducible rfl), by (simp only [go_sem, Nat.reduceEqDiff, Nat.reduceAdd, reduceIte]; first | done | rfl), by (simp only [go_sem, Nat.reduceEqDiff, Nat.reduceAdd, reduceIte]; first | done | with_reducible rfl), by (simp only [go_sem, Nat.reduceEqDiff, Nat.reduceAdd, reduceIte]; first | done | with_reducible rfl), by simp only [nx_H]; exact Keep.refl H, .inl ⟨rfl, rfl⟩⟩ ?_
    rintro m st ⟨done, rest, v4, rfl, ⟨ilen, idrop, ieq, igood, g0, g5, g4, gd, ikeep, iout⟩⟩
    cases rest with
    | nil =>
      have hc : decide ((done.length : Int) < (l0.length : Int)) = false := by simp only [List.length_nil] at ilen; simp; omega
      repeat' (first
          | refine W.seq ?_
          | refine W.wo ?_
          | refine WO.nil ?_
          | (apply WO.callv; (case e => (simp only [go_sem, Nat.reduceEqDiff, Nat.reduceAdd, reduceIte, g0, g5, g4, hc]; first | done | with_reducible rfl)); (case c => (simp only [go_sem, Nat.reduceEqDiff, Nat.reduceAdd, reduceIte, g0, g5, g4, hc]; first | done | with_reducible rfl)))
          | (apply WO.panicv; (case e => (simp only [go_sem, Nat.reduceEqDiff, Nat.reduceAdd, reduceIte, g0, g5, g4, hc]; first | done | with_reducible rfl)))
          | (apply WO.ok; (case e => (simp only [go_sem, Nat.reduceEqDiff, Nat.reduceAdd, reduceIte, g0, g5, g4, hc]; first | done | with_reducible rfl)))
          | (apply WO.guardT; (case hj => (simp only [go_sem, Nat.reduceEqDiff, Nat.reduceAdd, reduceIte, g0, g5, g4, hc]; first | done | with_reducible rfl)))
          | (apply WO.guardF; (case hj => (simp only [go_sem, Nat.reduceEqDiff, Nat.reduceAdd, reduceIte, g0, g5, g4, hc]; first | done | with_reducible rfl)))
          | (apply WO.guardU; (case hj => (simp only [go_sem, Nat.reduceEqDiff, Nat.reduceAdd, reduceIte, g0, g5, g4, hc]; first | done | with_reducible rfl)))
          | refine W.skip ?_
          | refine W.ret ?_
          | refine W.exit ?_
          | refine W.block ?_
          | (apply W.branch; (case e => (simp only [go_sem, Nat.reduceEqDiff, Nat.reduceAdd, reduceIte, g0, g5, g4, hc]; first | done | with_reducible rfl)))
          | refine WD.nil ?_
          | (apply WD.callv; (case e => (simp only [go_sem, Nat.reduceEqDiff, Nat.reduceAdd, reduceIte, g0, g5, g4, hc]; first | done | with_reducible rfl)); (case c => (simp only [go_sem, Nat.reduceEqDiff, Nat.reduceAdd, reduceIte, g0, g5, g4, hc]; first | done | with_reducible rfl)); (case hi => first | trivial | (simp only [nx_H]; done)); (case hc => rfl))
          | (apply WD.ok; (case e => (simp only [go_sem, Nat.reduceEqDiff, Nat.reduceAdd, reduceIte, g0, g5, g4, hc]; first | done | with_reducible rfl)); (case hi => first | trivial | (simp only [nx_H]; done)); (case hc => first | rfl | (simp only [eqV, beq_self_eq_true, Bool.and_self, Bool.or_true, Bool.and_true, Option.isSome_some]; done)))
          | (apply WD.guardT; (case hj => (simp only [go_sem, Nat.reduceEqDiff, Nat.reduceAdd, reduceIte, g0, g5, g4, hc]; first | done | with_reducible rfl)); (case hi => first | trivial | (simp only [nx_H]; done)))
          | (apply WD.guardF; (case hj => (simp only [go_sem, Nat.reduceEqDiff, Nat.reduceAdd, reduceIte, g0, g5, g4, hc]; first | done | with_reducible rfl)); (case hi => first | trivial | (simp only [nx_H]; done)))
          | (apply WD.guardU; (case hj => (simp only [go_sem, Nat.reduceEqDiff, Nat.reduceAdd, reduceIte, g0, g5, g4, hc]; first | done | with_reducible rfl)); (case hi => first | trivial | (simp only [nx_H]; done)))
          | with_reducible exact tf
          | with_reducible exact ft
          | intro _)
      refine ⟨rfl, by (simp only [go_sem, Nat.reduceEqDiff, Nat.reduceAdd, reduceIte, gd]; first | done | with_reducible rfl), by simp only [nx_H]; exact ikeep, .inl ⟨done, v4, ?_, by (simp only [go_sem, Nat.reduceEqDiff, Nat.reduceAdd, reduceIte, g4]; first | done | with_reducible rfl), by (simp only [go_sem, Nat.reduceEqDiff, Nat.reduceAdd, reduceIte]; first | done | with_reducible rfl), by simp only [nx_H]; exact iout, by simp only [List.length_nil] at ilen; omega, igood⟩⟩
      unfold lens
      rw [if_pos (by omega), ← ieq]; rfl
    | cons x r =>
      have hc : decide ((done.length : Int) < (l0.length : Int)) = true := by simp only [List.length_cons] at ilen; simp; omega
      have hix : (0 ≤ (done.length : Int) ∧ (done.length : Int) < ((l0.length : Nat) : Int)) = True := by simp only [List.length_cons] at ilen; simp; omega
      have hfail := lens_fail (x := x) hn ieq
      have hw : IntKind.i64.wrap ((done.length : Int) + 1) = ((done.length + 1 : Nat) : Int) := by
        simp only [List.length_cons] at ilen
        simp [IntKind.wrap, IntKind.bits, IntKind.signed]; omega
      have hxx : l0[done.length]? = some x := by
        have : (l0.drop done.length)[0]? = some x := by rw [idrop]; rfl
        simpa using this
      have hxs := hsz x (List.mem_of_getElem? hxx)
      have hld : loadAO st.H 4 (.pointer (some ⟨bA, 0 + ((done.length : Nat) : Int).toNat * 4, none⟩)) = some (.agg #[.string x.f0, .int .i64 x.f1, .int .i64 x.f2, .int .i64 x.f3]) := by
        have h1 := fk55.length l0
        have h2 : ∀ i, i < 4 → (l0.flatMap enc55)[done.length * 4 + i]? = (enc55 x)[i]? := fun i hi => by
          have := fk55.get l0 done.length i hi
          rw [hxx] at this
          exact this
        simp only [loadAO, (ikeep.2 bA hbA).trans hA, Nat.zero_add, Int.toNat_natCast]
        have h3 : (l0.flatMap enc55).length = l0.length * 4 := h1
        rw [if_pos (by rw [h3]; simp only [List.length_cons] at ilen; omega)]
        have h4 : ((l0.flatMap enc55).drop (done.length * 4)).take 4 = enc55 x := by
          apply List.ext_getElem?
          intro i
          rw [List.getElem?_take]
          split
          · rename_i hi; rw [List.getElem?_drop]; exact h2 i hi
          · rw [List.getElem?_eq_none (by simp [enc55]; omega)]
        rw [h4]
        rfl
      obtain ⟨M, hM⟩ : ∃ M, st.H.size = M := ⟨_, rfl⟩
      obtain ⟨H1, hH1⟩ : ∃ H1, st.H.new (.cells [.string ⟨#[]⟩, .int .i64 0, .int .i64 0, .int .i64 0] ⟨0, 55, true⟩ false) = H1 := ⟨_, rfl⟩
      obtain ⟨H2, hH2⟩ : ∃ H2, H1.put M (.cells (enc55 x) ⟨0, 55, true⟩ false) = H2 := ⟨_, rfl⟩
      have hM2 : H2.size = M + 1 := by rw [← hH2, ← hH1, Hp.size_put, Hp.size_new, hM]
      have hst1 : storeO H1 4 (.agg #[.string x.f0, .int .i64 x.f1, .int .i64 x.f2, .int .i64 x.f3]) (.pointer (some ⟨M, 0, none⟩)) = some H2 := by
        rw [← hH2, ← hH1]
        simp only [storeO, Hp.get_new, hM]
        simp [Value.cells, isCell, setL, enc55]
      have ks : Keep st.H H2 := by rw [← hH2, ← hH1]; exact (Keep.new _ _).put (by omega) _
      have k2 : Keep H H2 := ikeep.trans ks
      have o2 := iout.keep ks
      have vx : H2.get M = some (.cells (enc55 x) ⟨0, 55, true⟩ false) := by rw [← hH2, Hp.get_put, if_pos rfl]
      have q0 : loadO H2 (.pointer (some ⟨M, 0, none⟩)) = some (.string x.f0) := by simp only [loadO, vx]; rfl
      have q1 : loadO H2 (.pointer (some ⟨M, 1, none⟩)) = some (.int .i64 x.f1) := by simp only [loadO, vx]; rfl
      have q2 : loadO H2 (.pointer (some ⟨M, 2, none⟩)) = some (.int .i64 x.f2) := by simp only [loadO, vx]; rfl
      have q3 : loadO H2 (.pointer (some ⟨M, 3, none⟩)) = some (.int .i64 x.f3) := by simp only [loadO, vx]; rfl
      have hlen : done.length ≤ 4000 := by simp only [List.length_cons] at ilen; omega
      have happ : ∀ v : Int, ∃ H4, appendO (H2.new (.cells [.int .i64 v] ⟨0, 3, true⟩ false)) 3 1 8 v4 (.slice (some ⟨M + 1, 0, none⟩) 1 1) = some (.slice (some ⟨M + 2, 0, none⟩) (done.length + 1) (done.length + 1), H4) ∧ Keep H H4 ∧ OutS H H4 (.slice (some ⟨M + 2, 0, none⟩) (done.length + 1) (done.length + 1)) (done ++ [v]) := fun v => by
        have kn := Keep.new H2 (.cells [.int .i64 v] ⟨0, 3, true⟩ false)
        obtain ⟨H4, a, b, c, _⟩ := append_one (x := v) (uu := ⟨0, 3, true⟩) (c := M + 1) (o2.keep kn) (k2.trans kn) (by rw [Hp.get_new, hM2, if_pos rfl]) hlen
        rw [Hp.size_new, hM2] at a c
        exact ⟨H4, a, b, c⟩
      have hfill : ∀ v : Int, Instr.fill (fun i => some (i * 1, 1)) (bCells #[.int .i64 0] (1 * 1)) [(0, .int .i64 v)] = some #[.int .i64 v] := fun v => by kernel_rfl
      have fin : ∀ (v : Int) (st' : St), stepL done x = some v → st'.get 0 = .slice (some ⟨bA, 0, some 2⟩) l0.length l0.length → st'.get 5 = .int .i64 ((done.length + 1 : Nat) : Int) → st'.ds = [] → st'.get 4 = .slice (some ⟨M + 2, 0, none⟩) (done.length + 1) (done.length + 1) → Keep H st'.H →
          OutS H st'.H (.slice (some ⟨M + 2, 0, none⟩) (done.length + 1) (done.length + 1)) (done ++ [v]) → ∃ m', m' < (x :: r).length ∧ ∃ done' rest' v', m' = rest'.length ∧ LR H l0 bA done' rest' v' st' := by
        intro v st' hs a1 a2 a3 a4 a5 a6
        refine ⟨r.length, by simp, done ++ [v], r, _, rfl, ⟨?_, ?_, ?_, ?_, a1, ?_, a4, a3, a5, a6⟩⟩
        · simp only [List.length_cons] at ilen
          simp only [List.length_append, List.length_singleton]; omega
        · have : l0.drop (done.length + 1) = (l0.drop done.length).drop 1 := by rw [List.drop_drop]
          rw [List.length_append, List.length_singleton, this, idrop]; rfl
        · rw [← ieq]; simp only [lensF, hs, Option.bind_some]
        · intro y hy
          rcases List.mem_append.1 hy with hy | hy
          · exact igood y hy
          · rw [List.mem_singleton.1 hy]; exact stepL_good igood hs
        · rw [List.length_append, List.length_singleton]; exact a2
      repeat' (first
          | refine W.seq ?_
          | refine W.wo ?_
          | refine WO.nil ?_
          | (apply WO.callv; (case e => (simp only [go_sem, Nat.reduceEqDiff, Nat.reduceAdd, reduceIte, g0, g5, g4, hc, hix, hld, hM, hH1, hst1]; first | done | with_reducible rfl)); (case c => (simp only [go_sem, Nat.reduceEqDiff, Nat.reduceAdd, reduceIte, g0, g5, g4, hc, hix, hld, hM, hH1, hst1]; first | done | with_reducible rfl)))
          | (apply WO.panicv; (case e => (simp only [go_sem, Nat.reduceEqDiff, Nat.reduceAdd, reduceIte, g0, g5, g4, hc, hix, hld, hM, hH1, hst1]; first | done | with_reducible rfl)))
          | (apply WO.ok; (case e => (simp only [go_sem, Nat.reduceEqDiff, Nat.reduceAdd, reduceIte, g0, g5, g4, hc, hix, hld, hM, hH1, hst1]; first | done | with_reducible rfl)))
          | (apply WO.guardT; (case hj => (simp only [go_sem, Nat.reduceEqDiff, Nat.reduceAdd, reduceIte, g0, g5, g4, hc, hix, hld, hM, hH1, hst1]; first | done | with_reducible rfl)))
          | (apply WO.guardF; (case hj => (simp only [go_sem, Nat.reduceEqDiff, Nat.reduceAdd, reduceIte, g0, g5, g4, hc, hix, hld, hM, hH1, hst1]; first | done | with_reducible rfl)))
          | (apply WO.guardU; (case hj => (simp only [go_sem, Nat.reduceEqDiff, Nat.reduceAdd, reduceIte, g0, g5, g4, hc, hix, hld, hM, hH1, hst1]; first | done | with_reducible rfl)))
          | refine W.skip ?_
          | refine W.ret ?_
          | refine W.exit ?_
          | refine W.block ?_
          | (apply W.branch; (case e => (simp only [go_sem, Nat.reduceEqDiff, Nat.reduceAdd, reduceIte, g0, g5, g4, hc, hix, hld, hM, hH1, hst1]; first | done | with_reducible rfl)))
          | refine WD.nil ?_
          | (apply WD.callv; (case e => (simp only [go_sem, Nat.reduceEqDiff, Nat.reduceAdd, reduceIte, g0, g5, g4, hc, hix, hld, hM, hH1, hst1]; first | done | with_reducible rfl)); (case c => (simp only [go_sem, Nat.reduceEqDiff, Nat.reduceAdd, reduceIte, g0, g5, g4, hc, hix, hld, hM, hH1, hst1]; first | done | with_reducible rfl)); (case hi => first | trivial | (simp only [nx_H]; done)); (case hc => rfl))
          | (apply WD.ok; (case e => (simp only [go_sem, Nat.reduceEqDiff, Nat.reduceAdd, reduceIte, g0, g5, g4, hc, hix, hld, hM, hH1, hst1]; first | done | with_reducible rfl)); (case hi => first | trivial | (simp only [nx_H]; done)); (case hc => first | rfl | (simp only [eqV, beq_self_eq_true, Bool.and_self, Bool.or_true, Bool.and_true, Option.isSome_some]; done)))
          | (apply WD.guardT; (case hj => (simp only [go_sem, Nat.reduceEqDiff, Nat.reduceAdd, reduceIte, g0, g5, g4, hc, hix, hld, hM, hH1, hst1]; first | done | with_reducible rfl)); (case hi => first | trivial | (simp only [nx_H]; done)))
          | (apply WD.guardF; (case hj => (simp only [go_sem, Nat.reduceEqDiff, Nat.reduceAdd, reduceIte, g0, g5, g4, hc, hix, hld, hM, hH1, hst1]; first | done | with_reducible rfl)); (case hi => first | trivial | (simp only [nx_H]; done)))
          | (apply WD.guardU; (case hj => (simp only [go_sem, Nat.reduceEqDiff, Nat.reduceAdd, reduceIte, g0, g5, g4, hc, hix, hld, hM, hH1, hst1]; first | done | with_reducible rfl)); (case hi => first | trivial | (simp only [nx_H]; done)))
          | with_reducible exact tf
          | with_reducible exact ft
          | intro _)
      by_cases z0 : x.f0.size = 0
      · have e0 : (!(x.f0.toList == (⟨#[]⟩ : ByteArray).toList)) = false := by rw [str_empty]; simp [z0]
        have blk : ∀ k : Int, 0 ≤ k → k < (done.length : Int) → ∃ b, v4 = .slice (some ⟨b, 0, none⟩) done.length done.length ∧ ∀ j : Int, 0 ≤ j → j < (done.length : Int) → loadO H2 (.pointer (some ⟨b, 0 + j.toNat * 1, none⟩)) = some (.int .i64 (rd done j)) := fun k h0 h1 => by
          rcases o2 with ⟨_, rfl⟩ | ⟨b, _, _, hv, hg⟩
          · simp at h1; omega
          · refine ⟨b, hv, fun j j0 j1 => ?_⟩
            have hlt : j.toNat < done.length := by omega
            simp only [loadO, hg, Nat.zero_add, Nat.mul_one]
            simp [rd, hlt]
        by_cases z3 : x.f3 = 0
        · have e3 : (x.f3 != 0) = false := by simp [z3]
          repeat' (first
              | refine W.seq ?_
              | refine W.wo ?_
              | refine WO.nil ?_
              | (apply WO.callv; (case e => (simp only [go_sem, Nat.reduceEqDiff, Nat.reduceAdd, reduceIte, q0, q1, q2, q3, e0, e3]; first | done | with_reducible rfl)); (case c => (simp only [go_sem, Nat.reduceEqDiff, Nat.reduceAdd, reduceIte, q0, q1, q2, q3, e0, e3]; first | done | with_reducible rfl)))
              | (apply WO.panicv; (case e => (simp only [go_sem, Nat.reduceEqDiff, Nat.reduceAdd, reduceIte, q0, q1, q2, q3, e0, e3]; first | done | with_reducible rfl)))
              | (apply WO.ok; (case e => (simp only [go_sem, Nat.reduceEqDiff, Nat.reduceAdd, reduceIte, q0, q1, q2, q3, e0, e3]; first | done | with_reducible rfl)))
              | (apply WO.guardT; (case hj => (simp only [go_sem, Nat.reduceEqDiff, Nat.reduceAdd, reduceIte, q0, q1, q2, q3, e0, e3]; first | done | with_reducible rfl)))
              | (apply WO.guardF; (case hj => (simp only [go_sem, Nat.reduceEqDiff, Nat.reduceAdd, reduceIte, q0, q1, q2, q3, e0, e3]; first | done | with_reducible rfl)))
              | (apply WO.guardU; (case hj => (simp only [go_sem, Nat.reduceEqDiff, Nat.reduceAdd, reduceIte, q0, q1, q2, q3, e0, e3]; first | done | with_reducible rfl)))
              | refine W.skip ?_
              | refine W.ret ?_
              | refine W.exit ?_
              | refine W.block ?_
              | (apply W.branch; (case e => (simp only [go_sem, Nat.reduceEqDiff, Nat.reduceAdd, reduceIte, q0, q1, q2, q3, e0, e3]; first | done | with_reducible rfl)))
              | refine WD.nil ?_
              | (apply WD.callv; (case e => (simp only [go_sem, Nat.reduceEqDiff, Nat.reduceAdd, reduceIte, q0, q1, q2, q3, e0, e3]; first | done | with_reducible rfl)); (case c => (simp only [go_sem, Nat.reduceEqDiff, Nat.reduceAdd, reduceIte, q0, q1, q2, q3, e0, e3]; first | done | with_reducible rfl)); (case hi => first | trivial | (simp only [nx_H]; done)); (case hc => rfl))
              | (apply WD.ok; (case e => (simp only [go_sem, Nat.reduceEqDiff, Nat.reduceAdd, reduceIte, q0, q1, q2, q3, e0, e3]; first | done | with_reducible rfl)); (case hi => first | trivial | (simp only [nx_H]; done)); (case hc => first | rfl | (simp only [eqV, beq_self_eq_true, Bool.and_self, Bool.or_true, Bool.and_true, Option.isSome_some]; done)))
              | (apply WD.guardT; (case hj => (simp only [go_sem, Nat.reduceEqDiff, Nat.reduceAdd, reduceIte, q0, q1, q2, q3, e0, e3]; first | done | with_reducible rfl)); (case hi => first | trivial | (simp only [nx_H]; done)))
              | (apply WD.guardF; (case hj => (simp only [go_sem, Nat.reduceEqDiff, Nat.reduceAdd, reduceIte, q0, q1, q2, q3, e0, e3]; first | done | with_reducible rfl)); (case hi => first | trivial | (simp only [nx_H]; done)))
              | (apply WD.guardU; (case hj => (simp only [go_sem, Nat.reduceEqDiff, Nat.reduceAdd, reduceIte, q0, q1, q2, q3, e0, e3]; first | done | with_reducible rfl)); (case hi => first | trivial | (simp only [nx_H]; done)))
              | with_reducible exact tf
              | with_reducible exact ft
              | intro _)
          apply W.wq
          case hg => kernel_rfl
          by_cases t1 : x.f1 < 0
          · have b1 : decide (x.f1 < 0) = true := decide_eq_true t1
            repeat' (first
                | refine W.seq ?_
                | refine W.wo ?_
                | refine WO.nil ?_
                | (apply WO.callv; (case e => (simp only [go_sem, Nat.reduceEqDiff, Nat.reduceAdd, reduceIte, q0, q1, q2, q3, g5, b1]; first | done | with_reducible rfl)); (case c => (simp only [go_sem, Nat.reduceEqDiff, Nat.reduceAdd, reduceIte, q0, q1, q2, q3, g5, b1]; first | done | with_reducible rfl)))
                | (apply WO.panicv; (case e => (simp only [go_sem, Nat.reduceEqDiff, Nat.reduceAdd, reduceIte, q0, q1, q2, q3, g5, b1]; first | done | with_reducible rfl)))
                | (apply WO.ok; (case e => (simp only [go_sem, Nat.reduceEqDiff, Nat.reduceAdd, reduceIte, q0, q1, q2, q3, g5, b1]; first | done | with_reducible rfl)))
                | (apply WO.guardT; (case hj => (simp only [go_sem, Nat.reduceEqDiff, Nat.reduceAdd, reduceIte, q0, q1, q2, q3, g5, b1]; first | done | with_reducible rfl)))
                | (apply WO.guardF; (case hj => (simp only [go_sem, Nat.reduceEqDiff, Nat.reduceAdd, reduceIte, q0, q1, q2, q3, g5, b1]; first | done | with_reducible rfl)))
                | (apply WO.guardU; (case hj => (simp only [go_sem, Nat.reduceEqDiff, Nat.reduceAdd, reduceIte, q0, q1, q2, q3, g5, b1]; first | done | with_reducible rfl)))
                | refine W.skip ?_
                | refine W.ret ?_
                | refine W.exit ?_
                | refine W.block ?_
                | (apply W.branch; (case e => (simp only [go_sem, Nat.reduceEqDiff, Nat.reduceAdd, reduceIte, q0, q1, q2, q3, g5, b1]; first | done | with_reducible rfl)))
                | refine WD.nil ?_
                | (apply WD.callv; (case e => (simp only [go_sem, Nat.reduceEqDiff, Nat.reduceAdd, reduceIte, q0, q1, q2, q3, g5, b1]; first | done | with_reducible rfl)); (case c => (simp only [go_sem, Nat.reduceEqDiff, Nat.reduceAdd, reduceIte, q0, q1, q2, q3, g5, b1]; first | done | with_reducible rfl)); (case hi => first | trivial | (simp only [nx_H]; done)); (case hc => rfl))
                | (apply WD.ok; (case e => (simp only [go_sem, Nat.reduceEqDiff, Nat.reduceAdd, reduceIte, q0, q1, q2, q3, g5, b1]; first | done | with_reducible rfl)); (case hi => first | trivial | (simp only [nx_H]; done)); (case hc => first | rfl | (simp only [eqV, beq_self_eq_true, Bool.and_self, Bool.or_true, Bool.and_true, Option.isSome_some]; done)))
                | (apply WD.guardT; (case hj => (simp only [go_sem, Nat.reduceEqDiff, Nat.reduceAdd, reduceIte, q0, q1, q2, q3, g5, b1]; first | done | with_reducible rfl)); (case hi => first | trivial | (simp only [nx_H]; done)))
                | (apply WD.guardF; (case hj => (simp only [go_sem, Nat.reduceEqDiff, Nat.reduceAdd, reduceIte, q0, q1, q2, q3, g5, b1]; first | done | with_reducible rfl)); (case hi => first | trivial | (simp only [nx_H]; done)))
                | (apply WD.guardU; (case hj => (simp only [go_sem, Nat.reduceEqDiff, Nat.reduceAdd, reduceIte, q0, q1, q2, q3, g5, b1]; first | done | with_reducible rfl)); (case hi => first | trivial | (simp only [nx_H]; done)))
                | with_reducible exact tf
                | with_reducible exact ft
                | intro _)
            exact ⟨rfl, by (simp only [go_sem, Nat.reduceEqDiff, Nat.reduceAdd, reduceIte, gd]; first | done | with_reducible rfl), by simp only [nx_H]; exact k2, .inr ⟨hfail (by unfold stepL; rw [if_pos z0, if_pos z3, if_neg (by intro h; omega)]), by (simp only [go_sem, Nat.reduceEqDiff, Nat.reduceAdd, reduceIte]; first | done | with_reducible rfl), by (simp only [go_sem, Nat.reduceEqDiff, Nat.reduceAdd, reduceIte]; first | done | with_reducible rfl)⟩⟩
          have b1 : decide (x.f1 < 0) = false := decide_eq_false t1
          by_cases t2 : x.f1 ≥ (done.length : Int)
          · have b2 : decide (x.f1 ≥ (done.length : Int)) = true := decide_eq_true t2
            repeat' (first
                | refine W.seq ?_
                | refine W.wo ?_
                | refine WO.nil ?_
                | (apply WO.callv; (case e => (simp only [go_sem, Nat.reduceEqDiff, Nat.reduceAdd, reduceIte, q0, q1, q2, q3, g5, b1, b2]; first | done | with_reducible rfl)); (case c => (simp only [go_sem, Nat.reduceEqDiff, Nat.reduceAdd, reduceIte, q0, q1, q2, q3, g5, b1, b2]; first | done | with_reducible rfl)))
                | (apply WO.panicv; (case e => (simp only [go_sem, Nat.reduceEqDiff, Nat.reduceAdd, reduceIte, q0, q1, q2, q3, g5, b1, b2]; first | done | with_reducible rfl)))
                | (apply WO.ok; (case e => (simp only [go_sem, Nat.reduceEqDiff, Nat.reduceAdd, reduceIte, q0, q1, q2, q3, g5, b1, b2]; first | done | with_reducible rfl)))
                | (apply WO.guardT; (case hj => (simp only [go_sem, Nat.reduceEqDiff, Nat.reduceAdd, reduceIte, q0, q1, q2, q3, g5, b1, b2]; first | done | with_reducible rfl)))
                | (apply WO.guardF; (case hj => (simp only [go_sem, Nat.reduceEqDiff, Nat.reduceAdd, reduceIte, q0, q1, q2, q3, g5, b1, b2]; first | done | with_reducible rfl)))
                | (apply WO.guardU; (case hj => (simp only [go_sem, Nat.reduceEqDiff, Nat.reduceAdd, reduceIte, q0, q1, q2, q3, g5, b1, b2]; first | done | with_reducible rfl)))
                | refine W.skip ?_
                | refine W.ret ?_
                | refine W.exit ?_
                | refine W.block ?_
                | (apply W.branch; (case e => (simp only [go_sem, Nat.reduceEqDiff, Nat.reduceAdd, reduceIte, q0, q1, q2, q3, g5, b1, b2]; first | done | with_reducible rfl)))
                | refine WD.nil ?_
                | (apply WD.callv; (case e => (simp only [go_sem, Nat.reduceEqDiff, Nat.reduceAdd, reduceIte, q0, q1, q2, q3, g5, b1, b2]; first | done | with_reducible rfl)); (case c => (simp only [go_sem, Nat.reduceEqDiff, Nat.reduceAdd, reduceIte, q0, q1, q2, q3, g5, b1, b2]; first | done | with_reducible rfl)); (case hi => first | trivial | (simp only [nx_H]; done)); (case hc => rfl))
                | (apply WD.ok; (case e => (simp only [go_sem, Nat.reduceEqDiff, Nat.reduceAdd, reduceIte, q0, q1, q2, q3, g5, b1, b2]; first | done | with_reducible rfl)); (case hi => first | trivial | (simp only [nx_H]; done)); (case hc => first | rfl | (simp only [eqV, beq_self_eq_true, Bool.and_self, Bool.or_true, Bool.and_true, Option.isSome_some]; done)))
                | (apply WD.guardT; (case hj => (simp only [go_sem, Nat.reduceEqDiff, Nat.reduceAdd, reduceIte, q0, q1, q2, q3, g5, b1, b2]; first | done | with_reducible rfl)); (case hi => first | trivial | (simp only [nx_H]; done)))
                | (apply WD.guardF; (case hj => (simp only [go_sem, Nat.reduceEqDiff, Nat.reduceAdd, reduceIte, q0, q1, q2, q3, g5, b1, b2]; first | done | with_reducible rfl)); (case hi => first | trivial | (simp only [nx_H]; done)))
                | (apply WD.guardU; (case hj => (simp only [go_sem, Nat.reduceEqDiff, Nat.reduceAdd, reduceIte, q0, q1, q2, q3, g5, b1, b2]; first | done | with_reducible rfl)); (case hi => first | trivial | (simp only [nx_H]; done)))
                | with_reducible exact tf
                | with_reducible exact ft
                | intro _)
            exact ⟨rfl, by (simp only [go_sem, Nat.reduceEqDiff, Nat.reduceAdd, reduceIte, gd]; first | done | with_reducible rfl), by simp only [nx_H]; exact k2, .inr ⟨hfail (by unfold stepL; rw [if_pos z0, if_pos z3, if_neg (by intro h; omega)]), by (simp only [go_sem, Nat.reduceEqDiff, Nat.reduceAdd, reduceIte]; first | done | with_reducible rfl), by (simp only [go_sem, Nat.reduceEqDiff, Nat.reduceAdd, reduceIte]; first | done | with_reducible rfl)⟩⟩
          have b2 : decide (x.f1 ≥ (done.length : Int)) = false := decide_eq_false t2
          by_cases t3 : x.f2 < 0
          · have b3 : decide (x.f2 < 0) = true := decide_eq_true t3
            repeat' (first
                | refine W.seq ?_
                | refine W.wo ?_
                | refine WO.nil ?_
                | (apply WO.callv; (case e => (simp only [go_sem, Nat.reduceEqDiff, Nat.reduceAdd, reduceIte, q0, q1, q2, q3, g5, b1, b2, b3]; first | done | with_reducible rfl)); (case c => (simp only [go_sem, Nat.reduceEqDiff, Nat.reduceAdd, reduceIte, q0, q1, q2, q3, g5, b1, b2, b3]; first | done | with_reducible rfl)))
                | (apply WO.panicv; (case e => (simp only [go_sem, Nat.reduceEqDiff, Nat.reduceAdd, reduceIte, q0, q1, q2, q3, g5, b1, b2, b3]; first | done | with_reducible rfl)))
                | (apply WO.ok; (case e => (simp only [go_sem, Nat.reduceEqDiff, Nat.reduceAdd, reduceIte, q0, q1, q2, q3, g5, b1, b2, b3]; first | done | with_reducible rfl)))
                | (apply WO.guardT; (case hj => (simp only [go_sem, Nat.reduceEqDiff, Nat.reduceAdd, reduceIte, q0, q1, q2, q3, g5, b1, b2, b3]; first | done | with_reducible rfl)))
                | (apply WO.guardF; (case hj => (simp only [go_sem, Nat.reduceEqDiff, Nat.reduceAdd, reduceIte, q0, q1, q2, q3, g5, b1, b2, b3]; first | done | with_reducible rfl)))
                | (apply WO.guardU; (case hj => (simp only [go_sem, Nat.reduceEqDiff, Nat.reduceAdd, reduceIte, q0, q1, q2, q3, g5, b1, b2, b3]; first | done | with_reducible rfl)))
                | refine W.skip ?_
                | refine W.ret ?_
                | refine W.exit ?_
                | refine W.block ?_
                | (apply W.branch; (case e => (simp only [go_sem, Nat.reduceEqDiff, Nat.reduceAdd, reduceIte, q0, q1, q2, q3, g5, b1, b2, b3]; first | done | with_reducible rfl)))
                | refine WD.nil ?_
                | (apply WD.callv; (case e => (simp only [go_sem, Nat.reduceEqDiff, Nat.reduceAdd, reduceIte, q0, q1, q2, q3, g5, b1, b2, b3]; first | done | with_reducible rfl)); (case c => (simp only [go_sem, Nat.reduceEqDiff, Nat.reduceAdd, reduceIte, q0, q1, q2, q3, g5, b1, b2, b3]; first | done | with_reducible rfl)); (case hi => first | trivial | (simp only [nx_H]; done)); (case hc => rfl))
                | (apply WD.ok; (case e => (simp only [go_sem, Nat.reduceEqDiff, Nat.reduceAdd, reduceIte, q0, q1, q2, q3, g5, b1, b2, b3]; first | done | with_reducible rfl)); (case hi => first | trivial | (simp only [nx_H]; done)); (case hc => first | rfl | (simp only [eqV, beq_self_eq_true, Bool.and_self, Bool.or_true, Bool.and_true, Option.isSome_some]; done)))
                | (apply WD.guardT; (case hj => (simp only [go_sem, Nat.reduceEqDiff, Nat.reduceAdd, reduceIte, q0, q1, q2, q3, g5, b1, b2, b3]; first | done | with_reducible rfl)); (case hi => first | trivial | (simp only [nx_H]; done)))
                | (apply WD.guardF; (case hj => (simp only [go_sem, Nat.reduceEqDiff, Nat.reduceAdd, reduceIte, q0, q1, q2, q3, g5, b1, b2, b3]; first | done | with_reducible rfl)); (case hi => first | trivial | (simp only [nx_H]; done)))
                | (apply WD.guardU; (case hj => (simp only [go_sem, Nat.reduceEqDiff, Nat.reduceAdd, reduceIte, q0, q1, q2, q3, g5, b1, b2, b3]; first | done | with_reducible rfl)); (case hi => first | trivial | (simp only [nx_H]; done)))
                | with_reducible exact tf
                | with_reducible exact ft
                | intro _)
            exact ⟨rfl, by (simp only [go_sem, Nat.reduceEqDiff, Nat.reduceAdd, reduceIte, gd]; first | done | with_reducible rfl), by simp only [nx_H]; exact k2, .inr ⟨hfail (by unfold stepL; rw [if_pos z0, if_pos z3, if_neg (by intro h; omega)]), by (simp only [go_sem, Nat.reduceEqDiff, Nat.reduceAdd, reduceIte]; first | done | with_reducible rfl), by (simp only [go_sem, Nat.reduceEqDiff, Nat.reduceAdd, reduceIte]; first | done | with_reducible rfl)⟩⟩
          have b3 : decide (x.f2 < 0) = false := decide_eq_false t3
          by_cases t4 : x.f2 ≥ (done.length : Int)
          · have b4 : decide (x.f2 ≥ (done.length : Int)) = true := decide_eq_true t4
            repeat' (first
                | refine W.seq ?_
                | refine W.wo ?_
                | refine WO.nil ?_
                | (apply WO.callv; (case e => (simp only [go_sem, Nat.reduceEqDiff, Nat.reduceAdd, reduceIte, q0, q1, q2, q3, g5, b1, b2, b3, b4]; first | done | with_reducible rfl)); (case c => (simp only [go_sem, Nat.reduceEqDiff, Nat.reduceAdd, reduceIte, q0, q1, q2, q3, g5, b1, b2, b3, b4]; first | done | with_reducible rfl)))
                | (apply WO.panicv; (case e => (simp only [go_sem, Nat.reduceEqDiff, Nat.reduceAdd, reduceIte, q0, q1, q2, q3, g5, b1, b2, b3, b4]; first | done | with_reducible rfl)))
                | (apply WO.ok; (case e => (simp only [go_sem, Nat.reduceEqDiff, Nat.reduceAdd, reduceIte, q0, q1, q2, q3, g5, b1, b2, b3, b4]; first | done | with_reducible rfl)))
                | (apply WO.guardT; (case hj => (simp only [go_sem, Nat.reduceEqDiff, Nat.reduceAdd, reduceIte, q0, q1, q2, q3, g5, b1, b2, b3, b4]; first | done | with_reducible rfl)))
                | (apply WO.guardF; (case hj => (simp only [go_sem, Nat.reduceEqDiff, Nat.reduceAdd, reduceIte, q0, q1, q2, q3, g5, b1, b2, b3, b4]; first | done | with_reducible rfl)))
                | (apply WO.guardU; (case hj => (simp only [go_sem, Nat.reduceEqDiff, Nat.reduceAdd, reduceIte, q0, q1, q2, q3, g5, b1, b2, b3, b4]; first | done | with_reducible rfl)))
                | refine W.skip ?_
                | refine W.ret ?_
                | refine W.exit ?_
                | refine W.block ?_
                | (apply W.branch; (case e => (simp only [go_sem, Nat.reduceEqDiff, Nat.reduceAdd, reduceIte, q0, q1, q2, q3, g5, b1, b2, b3, b4]; first | done | with_reducible rfl)))
                | refine WD.nil ?_
                | (apply WD.callv; (case e => (simp only [go_sem, Nat.reduceEqDiff, Nat.reduceAdd, reduceIte, q0, q1, q2, q3, g5, b1, b2, b3, b4]; first | done | with_reducible rfl)); (case c => (simp only [go_sem, Nat.reduceEqDiff, Nat.reduceAdd, reduceIte, q0, q1, q2, q3, g5, b1, b2, b3, b4]; first | done | with_reducible rfl)); (case hi => first | trivial | (simp only [nx_H]; done)); (case hc => rfl))
                | (apply WD.ok; (case e => (simp only [go_sem, Nat.reduceEqDiff, Nat.reduceAdd, reduceIte, q0, q1, q2, q3, g5, b1, b2, b3, b4]; first | done | with_reducible rfl)); (case hi => first | trivial | (simp only [nx_H]; done)); (case hc => first | rfl | (simp only [eqV, beq_self_eq_true, Bool.and_self, Bool.or_true, Bool.and_true, Option.isSome_some]; done)))
                | (apply WD.guardT; (case hj => (simp only [go_sem, Nat.reduceEqDiff, Nat.reduceAdd, reduceIte, q0, q1, q2, q3, g5, b1, b2, b3, b4]; first | done | with_reducible rfl)); (case hi => first | trivial | (simp only [nx_H]; done)))
                | (apply WD.guardF; (case hj => (simp only [go_sem, Nat.reduceEqDiff, Nat.reduceAdd, reduceIte, q0, q1, q2, q3, g5, b1, b2, b3, b4]; first | done | with_reducible rfl)); (case hi => first | trivial | (simp only [nx_H]; done)))
                | (apply WD.guardU; (case hj => (simp only [go_sem, Nat.reduceEqDiff, Nat.reduceAdd, reduceIte, q0, q1, q2, q3, g5, b1, b2, b3, b4]; first | done | with_reducible rfl)); (case hi => first | trivial | (simp only [nx_H]; done)))
                | with_reducible exact tf
                | with_reducible exact ft
                | intro _)
            exact ⟨rfl, by (simp only [go_sem, Nat.reduceEqDiff, Nat.reduceAdd, reduceIte, gd]; first | done | with_reducible rfl), by simp only [nx_H]; exact k2, .inr ⟨hfail (by unfold stepL; rw [if_pos z0, if_pos z3, if_neg (by intro h; omega)]), by (simp only [go_sem, Nat.reduceEqDiff, Nat.reduceAdd, reduceIte]; first | done | with_reducible rfl), by (simp only [go_sem, Nat.reduceEqDiff, Nat.reduceAdd, reduceIte]; first | done | with_reducible rfl)⟩⟩
          have b4 : decide (x.f2 ≥ (done.length : Int)) = false := decide_eq_false t4
          obtain ⟨b, rfl, ld⟩ := blk x.f1 (by omega) (by omega)
          have l1 := ld x.f1 (by omega) (by omega)
          have l2 := ld x.f2 (by omega) (by omega)
          have a1 : (0 ≤ x.f1 ∧ x.f1 < ((done.length : Nat) : Int)) = True := by simp; omega
          have a2 : (0 ≤ x.f2 ∧ x.f2 < ((done.length : Nat) : Int)) = True := by simp; omega
          have y1 := igood.rd (i := x.f1) (by omega) (by omega)
          have y2 := igood.rd (i := x.f2) (by omega) (by omega)
          have hws : IntKind.i64.wrap (1152921504606846976 - rd done x.f2) = 1152921504606846976 - rd done x.f2 := by simp [IntKind.wrap, IntKind.bits, IntKind.signed]; omega
          by_cases t5 : rd done x.f1 > 1152921504606846976 - rd done x.f2
          · have b5 : decide (rd done x.f1 > 1152921504606846976 - rd done x.f2) = true := decide_eq_true t5
            repeat' (first
                | refine W.seq ?_
                | refine W.wo ?_
                | refine WO.nil ?_
                | (apply WO.callv; (case e => (simp only [go_sem, Nat.reduceEqDiff, Nat.reduceAdd, reduceIte, q0, q1, q2, q3, g4, g5, b1, b2, b3, b4, l1, l2, a1, a2, hws, b5]; first | done | with_reducible rfl)); (case c => (simp only [go_sem, Nat.reduceEqDiff, Nat.reduceAdd, reduceIte, q0, q1, q2, q3, g4, g5, b1, b2, b3, b4, l1, l2, a1, a2, hws, b5]; first | done | with_reducible rfl)))
                | (apply WO.panicv; (case e => (simp only [go_sem, Nat.reduceEqDiff, Nat.reduceAdd, reduceIte, q0, q1, q2, q3, g4, g5, b1, b2, b3, b4, l1, l2, a1, a2, hws, b5]; first | done | with_reducible rfl)))
                | (apply WO.ok; (case e => (simp only [go_sem, Nat.reduceEqDiff, Nat.reduceAdd, reduceIte, q0, q1, q2, q3, g4, g5, b1, b2, b3, b4, l1, l2, a1, a2, hws, b5]; first | done | with_reducible rfl)))
                | (apply WO.guardT; (case hj => (simp only [go_sem, Nat.reduceEqDiff, Nat.reduceAdd, reduceIte, q0, q1, q2, q3, g4, g5, b1, b2, b3, b4, l1, l2, a1, a2, hws, b5]; first | done | with_reducible rfl)))
                | (apply WO.guardF; (case hj => (simp only [go_sem, Nat.reduceEqDiff, Nat.reduceAdd, reduceIte, q0, q1, q2, q3, g4, g5, b1, b2, b3, b4, l1, l2, a1, a2, hws, b5]; first | done | with_reducible rfl)))
                | (apply WO.guardU; (case hj => (simp only [go_sem, Nat.reduceEqDiff, Nat.reduceAdd, reduceIte, q0, q1, q2, q3, g4, g5, b1, b2, b3, b4, l1, l2, a1, a2, hws, b5]; first | done | with_reducible rfl)))
                | refine W.skip ?_
                | refine W.ret ?_
                | refine W.exit ?_
                | refine W.block ?_
                | (apply W.branch; (case e => (simp only [go_sem, Nat.reduceEqDiff, Nat.reduceAdd, reduceIte, q0, q1, q2, q3, g4, g5, b1, b2, b3, b4, l1, l2, a1, a2, hws, b5]; first | done | with_reducible rfl)))
                | refine WD.nil ?_
                | (apply WD.callv; (case e => (simp only [go_sem, Nat.reduceEqDiff, Nat.reduceAdd, reduceIte, q0, q1, q2, q3, g4, g5, b1, b2, b3, b4, l1, l2, a1, a2, hws, b5]; first | done | with_reducible rfl)); (case c => (simp only [go_sem, Nat.reduceEqDiff, Nat.reduceAdd, reduceIte, q0, q1, q2, q3, g4, g5, b1, b2, b3, b4, l1, l2, a1, a2, hws, b5]; first | done | with_reducible rfl)); (case hi => first | trivial | (simp only [nx_H]; done)); (case hc => rfl))
                | (apply WD.ok; (case e => (simp only [go_sem, Nat.reduceEqDiff, Nat.reduceAdd, reduceIte, q0, q1, q2, q3, g4, g5, b1, b2, b3, b4, l1, l2, a1, a2, hws, b5]; first | done | with_reducible rfl)); (case hi => first | trivial | (simp only [nx_H]; done)); (case hc => first | rfl | (simp only [eqV, beq_self_eq_true, Bool.and_self, Bool.or_true, Bool.and_true, Option.isSome_some]; done)))
                | (apply WD.guardT; (case hj => (simp only [go_sem, Nat.reduceEqDiff, Nat.reduceAdd, reduceIte, q0, q1, q2, q3, g4, g5, b1, b2, b3, b4, l1, l2, a1, a2, hws, b5]; first | done | with_reducible rfl)); (case hi => first | trivial | (simp only [nx_H]; done)))
                | (apply WD.guardF; (case hj => (simp only [go_sem, Nat.reduceEqDiff, Nat.reduceAdd, reduceIte, q0, q1, q2, q3, g4, g5, b1, b2, b3, b4, l1, l2, a1, a2, hws, b5]; first | done | with_reducible rfl)); (case hi => first | trivial | (simp only [nx_H]; done)))
                | (apply WD.guardU; (case hj => (simp only [go_sem, Nat.reduceEqDiff, Nat.reduceAdd, reduceIte, q0, q1, q2, q3, g4, g5, b1, b2, b3, b4, l1, l2, a1, a2, hws, b5]; first | done | with_reducible rfl)); (case hi => first | trivial | (simp only [nx_H]; done)))
                | with_reducible exact tf
                | with_reducible exact ft
                | intro _)
            exact ⟨rfl, by (simp only [go_sem, Nat.reduceEqDiff, Nat.reduceAdd, reduceIte, gd]; first | done | with_reducible rfl), by simp only [nx_H]; exact k2, .inr ⟨hfail (by unfold stepL; rw [if_pos z0, if_pos z3, if_neg (by intro h; omega)]), by (simp only [go_sem, Nat.reduceEqDiff, Nat.reduceAdd, reduceIte]; first | done | with_reducible rfl), by (simp only [go_sem, Nat.reduceEqDiff, Nat.reduceAdd, reduceIte]; first | done | with_reducible rfl)⟩⟩
          have b5 : decide (rd done x.f1 > 1152921504606846976 - rd done x.f2) = false := decide_eq_false t5
          have hwa : IntKind.i64.wrap (rd done x.f1 + rd done x.f2) = rd done x.f1 + rd done x.f2 := by simp [IntKind.wrap, IntKind.bits, IntKind.signed]; omega
          have hs : stepL done x = some (rd done x.f1 + rd done x.f2) := by unfold stepL; rw [if_pos z0, if_pos z3, if_pos ⟨by omega, by omega, by omega, by omega, by omega⟩]
          obtain ⟨H4, happ4, hk4, ho4⟩ := happ (rd done x.f1 + rd done x.f2)
          repeat' (first
              | refine W.seq ?_
              | refine W.wo ?_
              | refine WO.nil ?_
              | (apply WO.callv; (case e => (simp only [go_sem, Nat.reduceEqDiff, Nat.reduceAdd, reduceIte, q0, q1, q2, q3, g4, g5, b1, b2, b3, b4, l1, l2, a1, a2, hws, b5]; first | done | with_reducible rfl)); (case c => (simp only [go_sem, Nat.reduceEqDiff, Nat.reduceAdd, reduceIte, q0, q1, q2, q3, g4, g5, b1, b2, b3, b4, l1, l2, a1, a2, hws, b5]; first | done | with_reducible rfl)))
              | (apply WO.panicv; (case e => (simp only [go_sem, Nat.reduceEqDiff, Nat.reduceAdd, reduceIte, q0, q1, q2, q3, g4, g5, b1, b2, b3, b4, l1, l2, a1, a2, hws, b5]; first | done | with_reducible rfl)))
              | (apply WO.ok; (case e => (simp only [go_sem, Nat.reduceEqDiff, Nat.reduceAdd, reduceIte, q0, q1, q2, q3, g4, g5, b1, b2, b3, b4, l1, l2, a1, a2, hws, b5]; first | done | with_reducible rfl)))
              | (apply WO.guardT; (case hj => (simp only [go_sem, Nat.reduceEqDiff, Nat.reduceAdd, reduceIte, q0, q1, q2, q3, g4, g5, b1, b2, b3, b4, l1, l2, a1, a2, hws, b5]; first | done | with_reducible rfl)))
              | (apply WO.guardF; (case hj => (simp only [go_sem, Nat.reduceEqDiff, Nat.reduceAdd, reduceIte, q0, q1, q2, q3, g4, g5, b1, b2, b3, b4, l1, l2, a1, a2, hws, b5]; first | done | with_reducible rfl)))
              | (apply WO.guardU; (case hj => (simp only [go_sem, Nat.reduceEqDiff, Nat.reduceAdd, reduceIte, q0, q1, q2, q3, g4, g5, b1, b2, b3, b4, l1, l2, a1, a2, hws, b5]; first | done | with_reducible rfl)))
              | refine W.skip ?_
              | refine W.ret ?_
              | refine W.exit ?_
              | refine W.block ?_
              | (apply W.branch; (case e => (simp only [go_sem, Nat.reduceEqDiff, Nat.reduceAdd, reduceIte, q0, q1, q2, q3, g4, g5, b1, b2, b3, b4, l1, l2, a1, a2, hws, b5]; first | done | with_reducible rfl)))
              | refine WD.nil ?_
              | (apply WD.callv; (case e => (simp only [go_sem, Nat.reduceEqDiff, Nat.reduceAdd, reduceIte, q0, q1, q2, q3, g4, g5, b1, b2, b3, b4, l1, l2, a1, a2, hws, b5]; first | done | with_reducible rfl)); (case c => (simp only [go_sem, Nat.reduceEqDiff, Nat.reduceAdd, reduceIte, q0, q1, q2, q3, g4, g5, b1, b2, b3, b4, l1, l2, a1, a2, hws, b5]; first | done | with_reducible rfl)); (case hi => first | trivial | (simp only [nx_H]; done)); (case hc => rfl))
              | (apply WD.ok; (case e => (simp only [go_sem, Nat.reduceEqDiff, Nat.reduceAdd, reduceIte, q0, q1, q2, q3, g4, g5, b1, b2, b3, b4, l1, l2, a1, a2, hws, b5]; first | done | with_reducible rfl)); (case hi => first | trivial | (simp only [nx_H]; done)); (case hc => first | rfl | (simp only [eqV, beq_self_eq_true, Bool.and_self, Bool.or_true, Bool.and_true, Option.isSome_some]; done)))
              | (apply WD.guardT; (case hj => (simp only [go_sem, Nat.reduceEqDiff, Nat.reduceAdd, reduceIte, q0, q1, q2, q3, g4, g5, b1, b2, b3, b4, l1, l2, a1, a2, hws, b5]; first | done | with_reducible rfl)); (case hi => first | trivial | (simp only [nx_H]; done)))
              | (apply WD.guardF; (case hj => (simp only [go_sem, Nat.reduceEqDiff, Nat.reduceAdd, reduceIte, q0, q1, q2, q3, g4, g5, b1, b2, b3, b4, l1, l2, a1, a2, hws, b5]; first | done | with_reducible rfl)); (case hi => first | trivial | (simp only [nx_H]; done)))
              | (apply WD.guardU; (case hj => (simp only [go_sem, Nat.reduceEqDiff, Nat.reduceAdd, reduceIte, q0, q1, q2, q3, g4, g5, b1, b2, b3, b4, l1, l2, a1, a2, hws, b5]; first | done | with_reducible rfl)); (case hi => first | trivial | (simp only [nx_H]; done)))
              | with_reducible exact tf
              | with_reducible exact ft
              | intro _)
          apply W.wq
          case hg => kernel_rfl
          repeat' (first
              | refine W.seq ?_
              | refine W.wo ?_
              | refine WO.nil ?_
              | (apply WO.callv; (case e => (simp only [go_sem, Nat.reduceEqDiff, Nat.reduceAdd, reduceIte, q0, q1, q2, q3, g4, l1, l2, a1, a2, hwa, hM2, hfill, happ4, g5, hw]; first | done | with_reducible rfl)); (case c => (simp only [go_sem, Nat.reduceEqDiff, Nat.reduceAdd, reduceIte, q0, q1, q2, q3, g4, l1, l2, a1, a2, hwa, hM2, hfill, happ4, g5, hw]; first | done | with_reducible rfl)))
              | (apply WO.panicv; (case e => (simp only [go_sem, Nat.reduceEqDiff, Nat.reduceAdd, reduceIte, q0, q1, q2, q3, g4, l1, l2, a1, a2, hwa, hM2, hfill, happ4, g5, hw]; first | done | with_reducible rfl)))
              | (apply WO.ok; (case e => (simp only [go_sem, Nat.reduceEqDiff, Nat.reduceAdd, reduceIte, q0, q1, q2, q3, g4, l1, l2, a1, a2, hwa, hM2, hfill, happ4, g5, hw]; first | done | with_reducible rfl)))
              | (apply WO.guardT; (case hj => (simp only [go_sem, Nat.reduceEqDiff, Nat.reduceAdd, reduceIte, q0, q1, q2, q3, g4, l1, l2, a1, a2, hwa, hM2, hfill, happ4, g5, hw]; first | done | with_reducible rfl)))
              | (apply WO.guardF; (case hj => (simp only [go_sem, Nat.reduceEqDiff, Nat.reduceAdd, reduceIte, q0, q1, q2, q3, g4, l1, l2, a1, a2, hwa, hM2, hfill, happ4, g5, hw]; first | done | with_reducible rfl)))
              | (apply WO.guardU; (case hj => (simp only [go_sem, Nat.reduceEqDiff, Nat.reduceAdd, reduceIte, q0, q1, q2, q3, g4, l1, l2, a1, a2, hwa, hM2, hfill, happ4, g5, hw]; first | done | with_reducible rfl)))
              | refine W.skip ?_
              | refine W.ret ?_
              | refine W.exit ?_
              | refine W.block ?_
              | (apply W.branch; (case e => (simp only [go_sem, Nat.reduceEqDiff, Nat.reduceAdd, reduceIte, q0, q1, q2, q3, g4, l1, l2, a1, a2, hwa, hM2, hfill, happ4, g5, hw]; first | done | with_reducible rfl)))
              | refine WD.nil ?_
              | (apply WD.callv; (case e => (simp only [go_sem, Nat.reduceEqDiff, Nat.reduceAdd, reduceIte, q0, q1, q2, q3, g4, l1, l2, a1, a2, hwa, hM2, hfill, happ4, g5, hw]; first | done | with_reducible rfl)); (case c => (simp only [go_sem, Nat.reduceEqDiff, Nat.reduceAdd, reduceIte, q0, q1, q2, q3, g4, l1, l2, a1, a2, hwa, hM2, hfill, happ4, g5, hw]; first | done | with_reducible rfl)); (case hi => first | trivial | (simp only [nx_H]; done)); (case hc => rfl))
              | (apply WD.ok; (case e => (simp only [go_sem, Nat.reduceEqDiff, Nat.reduceAdd, reduceIte, q0, q1, q2, q3, g4, l1, l2, a1, a2, hwa, hM2, hfill, happ4, g5, hw]; first | done | with_reducible rfl)); (case hi => first | trivial | (simp only [nx_H]; done)); (case hc => first | rfl | (simp only [eqV, beq_self_eq_true, Bool.and_self, Bool.or_true, Bool.and_true, Option.isSome_some]; done)))
              | (apply WD.guardT; (case hj => (simp only [go_sem, Nat.reduceEqDiff, Nat.reduceAdd, reduceIte, q0, q1, q2, q3, g4, l1, l2, a1, a2, hwa, hM2, hfill, happ4, g5, hw]; first | done | with_reducible rfl)); (case hi => first | trivial | (simp only [nx_H]; done)))
              | (apply WD.guardF; (case hj => (simp only [go_sem, Nat.reduceEqDiff, Nat.reduceAdd, reduceIte, q0, q1, q2, q3, g4, l1, l2, a1, a2, hwa, hM2, hfill, happ4, g5, hw]; first | done | with_reducible rfl)); (case hi => first | trivial | (simp only [nx_H]; done)))
              | (apply WD.guardU; (case hj => (simp only [go_sem, Nat.reduceEqDiff, Nat.reduceAdd, reduceIte, q0, q1, q2, q3, g4, l1, l2, a1, a2, hwa, hM2, hfill, happ4, g5, hw]; first | done | with_reducible rfl)); (case hi => first | trivial | (simp only [nx_H]; done)))
              | with_reducible exact tf
              | with_reducible exact ft
              | intro _)
          exact fin (rd done x.f1 + rd done x.f2) _ hs (by (simp only [go_sem, Nat.reduceEqDiff, Nat.reduceAdd, reduceIte, g0]; first | done | with_reducible rfl)) (by (simp only [go_sem, Nat.reduceEqDiff, Nat.reduceAdd, reduceIte, hw]; first | done | with_reducible rfl)) (by (simp only [go_sem, Nat.reduceEqDiff, Nat.reduceAdd, reduceIte, gd]; first | done | with_reducible rfl)) (by (simp only [go_sem, Nat.reduceEqDiff, Nat.reduceAdd, reduceIte]; first | done | with_reducible rfl)) (by simp only [nx_H]; exact hk4) (by simp only [nx_H]; exact ho4)
        · have e3 : (x.f3 != 0) = true := by simp [z3]
          repeat' (first
              | refine W.seq ?_
              | refine W.wo ?_
              | refine WO.nil ?_
              | (apply WO.callv; (case e => (simp only [go_sem, Nat.reduceEqDiff, Nat.reduceAdd, reduceIte, q0, q1, q2, q3, e0, e3]; first | done | with_reducible rfl)); (case c => (simp only [go_sem, Nat.reduceEqDiff, Nat.reduceAdd, reduceIte, q0, q1, q2, q3, e0, e3]; first | done | with_reducible rfl)))
              | (apply WO.panicv; (case e => (simp only [go_sem, Nat.reduceEqDiff, Nat.reduceAdd, reduceIte, q0, q1, q2, q3, e0, e3]; first | done | with_reducible rfl)))
              | (apply WO.ok; (case e => (simp only [go_sem, Nat.reduceEqDiff, Nat.reduceAdd, reduceIte, q0, q1, q2, q3, e0, e3]; first | done | with_reducible rfl)))
              | (apply WO.guardT; (case hj => (simp only [go_sem, Nat.reduceEqDiff, Nat.reduceAdd, reduceIte, q0, q1, q2, q3, e0, e3]; first | done | with_reducible rfl)))
              | (apply WO.guardF; (case hj => (simp only [go_sem, Nat.reduceEqDiff, Nat.reduceAdd, reduceIte, q0, q1, q2, q3, e0, e3]; first | done | with_reducible rfl)))
              | (apply WO.guardU; (case hj => (simp only [go_sem, Nat.reduceEqDiff, Nat.reduceAdd, reduceIte, q0, q1, q2, q3, e0, e3]; first | done | with_reducible rfl)))
              | refine W.skip ?_
              | refine W.ret ?_
              | refine W.exit ?_
              | refine W.block ?_
              | (apply W.branch; (case e => (simp only [go_sem, Nat.reduceEqDiff, Nat.reduceAdd, reduceIte, q0, q1, q2, q3, e0, e3]; first | done | with_reducible rfl)))
              | refine WD.nil ?_
              | (apply WD.callv; (case e => (simp only [go_sem, Nat.reduceEqDiff, Nat.reduceAdd, reduceIte, q0, q1, q2, q3, e0, e3]; first | done | with_reducible rfl)); (case c => (simp only [go_sem, Nat.reduceEqDiff, Nat.reduceAdd, reduceIte, q0, q1, q2, q3, e0, e3]; first | done | with_reducible rfl)); (case hi => first | trivial | (simp only [nx_H]; done)); (case hc => rfl))
              | (apply WD.ok; (case e => (simp only [go_sem, Nat.reduceEqDiff, Nat.reduceAdd, reduceIte, q0, q1, q2, q3, e0, e3]; first | done | with_reducible rfl)); (case hi => first | trivial | (simp only [nx_H]; done)); (case hc => first | rfl | (simp only [eqV, beq_self_eq_true, Bool.and_self, Bool.or_true, Bool.and_true, Option.isSome_some]; done)))
              | (apply WD.guardT; (case hj => (simp only [go_sem, Nat.reduceEqDiff, Nat.reduceAdd, reduceIte, q0, q1, q2, q3, e0, e3]; first | done | with_reducible rfl)); (case hi => first | trivial | (simp only [nx_H]; done)))
              | (apply WD.guardF; (case hj => (simp only [go_sem, Nat.reduceEqDiff, Nat.reduceAdd, reduceIte, q0, q1, q2, q3, e0, e3]; first | done | with_reducible rfl)); (case hi => first | trivial | (simp only [nx_H]; done)))
              | (apply WD.guardU; (case hj => (simp only [go_sem, Nat.reduceEqDiff, Nat.reduceAdd, reduceIte, q0, q1, q2, q3, e0, e3]; first | done | with_reducible rfl)); (case hi => first | trivial | (simp only [nx_H]; done)))
              | with_reducible exact tf
              | with_reducible exact ft
              | intro _)
          apply W.wq
          case hg => kernel_rfl
          by_cases t1 : x.f3 < 1
          · have b1 : decide (x.f3 < 1) = true := decide_eq_true t1
            repeat' (first
                | refine W.seq ?_
                | refine W.wo ?_
                | refine WO.nil ?_
                | (apply WO.callv; (case e => (simp only [go_sem, Nat.reduceEqDiff, Nat.reduceAdd, reduceIte, q0, q1, q2, q3, g5, b1]; first | done | with_reducible rfl)); (case c => (simp only [go_sem, Nat.reduceEqDiff, Nat.reduceAdd, reduceIte, q0, q1, q2, q3, g5, b1]; first | done | with_reducible rfl)))
                | (apply WO.panicv; (case e => (simp only [go_sem, Nat.reduceEqDiff, Nat.reduceAdd, reduceIte, q0, q1, q2, q3, g5, b1]; first | done | with_reducible rfl)))
                | (apply WO.ok; (case e => (simp only [go_sem, Nat.reduceEqDiff, Nat.reduceAdd, reduceIte, q0, q1, q2, q3, g5, b1]; first | done | with_reducible rfl)))
                | (apply WO.guardT; (case hj => (simp only [go_sem, Nat.reduceEqDiff, Nat.reduceAdd, reduceIte, q0, q1, q2, q3, g5, b1]; first | done | with_reducible rfl)))
                | (apply WO.guardF; (case hj => (simp only [go_sem, Nat.reduceEqDiff, Nat.reduceAdd, reduceIte, q0, q1, q2, q3, g5, b1]; first | done | with_reducible rfl)))
                | (apply WO.guardU; (case hj => (simp only [go_sem, Nat.reduceEqDiff, Nat.reduceAdd, reduceIte, q0, q1, q2, q3, g5, b1]; first | done | with_reducible rfl)))
                | refine W.skip ?_
                | refine W.ret ?_
                | refine W.exit ?_
                | refine W.block ?_
                | (apply W.branch; (case e => (simp only [go_sem, Nat.reduceEqDiff, Nat.reduceAdd, reduceIte, q0, q1, q2, q3, g5, b1]; first | done | with_reducible rfl)))
                | refine WD.nil ?_
                | (apply WD.callv; (case e => (simp only [go_sem, Nat.reduceEqDiff, Nat.reduceAdd, reduceIte, q0, q1, q2, q3, g5, b1]; first | done | with_reducible rfl)); (case c => (simp only [go_sem, Nat.reduceEqDiff, Nat.reduceAdd, reduceIte, q0, q1, q2, q3, g5, b1]; first | done | with_reducible rfl)); (case hi => first | trivial | (simp only [nx_H]; done)); (case hc => rfl))
                | (apply WD.ok; (case e => (simp only [go_sem, Nat.reduceEqDiff, Nat.reduceAdd, reduceIte, q0, q1, q2, q3, g5, b1]; first | done | with_reducible rfl)); (case hi => first | trivial | (simp only [nx_H]; done)); (case hc => first | rfl | (simp only [eqV, beq_self_eq_true, Bool.and_self, Bool.or_true, Bool.and_true, Option.isSome_some]; done)))
                | (apply WD.guardT; (case hj => (simp only [go_sem, Nat.reduceEqDiff, Nat.reduceAdd, reduceIte, q0, q1, q2, q3, g5, b1]; first | done | with_reducible rfl)); (case hi => first | trivial | (simp only [nx_H]; done)))
                | (apply WD.guardF; (case hj => (simp only [go_sem, Nat.reduceEqDiff, Nat.reduceAdd, reduceIte, q0, q1, q2, q3, g5, b1]; first | done | with_reducible rfl)); (case hi => first | trivial | (simp only [nx_H]; done)))
                | (apply WD.guardU; (case hj => (simp only [go_sem, Nat.reduceEqDiff, Nat.reduceAdd, reduceIte, q0, q1, q2, q3, g5, b1]; first | done | with_reducible rfl)); (case hi => first | trivial | (simp only [nx_H]; done)))
                | with_reducible exact tf
                | with_reducible exact ft
                | intro _)
            exact ⟨rfl, by (simp only [go_sem, Nat.reduceEqDiff, Nat.reduceAdd, reduceIte, gd]; first | done | with_reducible rfl), by simp only [nx_H]; exact k2, .inr ⟨hfail (by unfold stepL; rw [if_pos z0, if_neg z3, if_neg (by intro h; omega)]), by (simp only [go_sem, Nat.reduceEqDiff, Nat.reduceAdd, reduceIte]; first | done | with_reducible rfl), by (simp only [go_sem, Nat.reduceEqDiff, Nat.reduceAdd, reduceIte]; first | done | with_reducible rfl)⟩⟩
          have b1 : decide (x.f3 < 1) = false := decide_eq_false t1
          by_cases t2 : x.f1 < 0
          · have b2 : decide (x.f1 < 0) = true := decide_eq_true t2
            repeat' (first
                | refine W.seq ?_
                | refine W.wo ?_
                | refine WO.nil ?_
                | (apply WO.callv; (case e => (simp only [go_sem, Nat.reduceEqDiff, Nat.reduceAdd, reduceIte, q0, q1, q2, q3, g5, b1, b2]; first | done | with_reducible rfl)); (case c => (simp only [go_sem, Nat.reduceEqDiff, Nat.reduceAdd, reduceIte, q0, q1, q2, q3, g5, b1, b2]; first | done | with_reducible rfl)))
                | (apply WO.panicv; (case e => (simp only [go_sem, Nat.reduceEqDiff, Nat.reduceAdd, reduceIte, q0, q1, q2, q3, g5, b1, b2]; first | done | with_reducible rfl)))
                | (apply WO.ok; (case e => (simp only [go_sem, Nat.reduceEqDiff, Nat.reduceAdd, reduceIte, q0, q1, q2, q3, g5, b1, b2]; first | done | with_reducible rfl)))
                | (apply WO.guardT; (case hj => (simp only [go_sem, Nat.reduceEqDiff, Nat.reduceAdd, reduceIte, q0, q1, q2, q3, g5, b1, b2]; first | done | with_reducible rfl)))
                | (apply WO.guardF; (case hj => (simp only [go_sem, Nat.reduceEqDiff, Nat.reduceAdd, reduceIte, q0, q1, q2, q3, g5, b1, b2]; first | done | with_reducible rfl)))
                | (apply WO.guardU; (case hj => (simp only [go_sem, Nat.reduceEqDiff, Nat.reduceAdd, reduceIte, q0, q1, q2, q3, g5, b1, b2]; first | done | with_reducible rfl)))
                | refine W.skip ?_
                | refine W.ret ?_
                | refine W.exit ?_
                | refine W.block ?_
                | (apply W.branch; (case e => (simp only [go_sem, Nat.reduceEqDiff, Nat.reduceAdd, reduceIte, q0, q1, q2, q3, g5, b1, b2]; first | done | with_reducible rfl)))
                | refine WD.nil ?_
                | (apply WD.callv; (case e => (simp only [go_sem, Nat.reduceEqDiff, Nat.reduceAdd, reduceIte, q0, q1, q2, q3, g5, b1, b2]; first | done | with_reducible rfl)); (case c => (simp only [go_sem, Nat.reduceEqDiff, Nat.reduceAdd, reduceIte, q0, q1, q2, q3, g5, b1, b2]; first | done | with_reducible rfl)); (case hi => first | trivial | (simp only [nx_H]; done)); (case hc => rfl))
                | (apply WD.ok; (case e => (simp only [go_sem, Nat.reduceEqDiff, Nat.reduceAdd, reduceIte, q0, q1, q2, q3, g5, b1, b2]; first | done | with_reducible rfl)); (case hi => first | trivial | (simp only [nx_H]; done)); (case hc => first | rfl | (simp only [eqV, beq_self_eq_true, Bool.and_self, Bool.or_true, Bool.and_true, Option.isSome_some]; done)))
                | (apply WD.guardT; (case hj => (simp only [go_sem, Nat.reduceEqDiff, Nat.reduceAdd, reduceIte, q0, q1, q2, q3, g5, b1, b2]; first | done | with_reducible rfl)); (case hi => first | trivial | (simp only [nx_H]; done)))
                | (apply WD.guardF; (case hj => (simp only [go_sem, Nat.reduceEqDiff, Nat.reduceAdd, reduceIte, q0, q1, q2, q3, g5, b1, b2]; first | done | with_reducible rfl)); (case hi => first | trivial | (simp only [nx_H]; done)))
                | (apply WD.guardU; (case hj => (simp only [go_sem, Nat.reduceEqDiff, Nat.reduceAdd, reduceIte, q0, q1, q2, q3, g5, b1, b2]; first | done | with_reducible rfl)); (case hi => first | trivial | (simp only [nx_H]; done)))
                | with_reducible exact tf
                | with_reducible exact ft
                | intro _)
            exact ⟨rfl, by (simp only [go_sem, Nat.reduceEqDiff, Nat.reduceAdd, reduceIte, gd]; first | done | with_reducible rfl), by simp only [nx_H]; exact k2, .inr ⟨hfail (by unfold stepL; rw [if_pos z0, if_neg z3, if_neg (by intro h; omega)]), by (simp only [go_sem, Nat.reduceEqDiff, Nat.reduceAdd, reduceIte]; first | done | with_reducible rfl), by (simp only [go_sem, Nat.reduceEqDiff, Nat.reduceAdd, reduceIte]; first | done | with_reducible rfl)⟩⟩
          have b2 : decide (x.f1 < 0) = false := decide_eq_false t2
          by_cases t3 : x.f1 ≥ (done.length : Int)
          · have b3 : decide (x.f1 ≥ (done.length : Int)) = true := decide_eq_true t3
            repeat' (first
                | refine W.seq ?_
                | refine W.wo ?_
                | refine WO.nil ?_
                | (apply WO.callv; (case e => (simp only [go_sem, Nat.reduceEqDiff, Nat.reduceAdd, reduceIte, q0, q1, q2, q3, g5, b1, b2, b3]; first | done | with_reducible rfl)); (case c => (simp only [go_sem, Nat.reduceEqDiff, Nat.reduceAdd, reduceIte, q0, q1, q2, q3, g5, b1, b2, b3]; first | done | with_reducible rfl)))
                | (apply WO.panicv; (case e => (simp only [go_sem, Nat.reduceEqDiff, Nat.reduceAdd, reduceIte, q0, q1, q2, q3, g5, b1, b2, b3]; first | done | with_reducible rfl)))
                | (apply WO.ok; (case e => (simp only [go_sem, Nat.reduceEqDiff, Nat.reduceAdd, reduceIte, q0, q1, q2, q3, g5, b1, b2, b3]; first | done | with_reducible rfl)))
                | (apply WO.guardT; (case hj => (simp only [go_sem, Nat.reduceEqDiff, Nat.reduceAdd, reduceIte, q0, q1, q2, q3, g5, b1, b2, b3]; first | done | with_reducible rfl)))
                | (apply WO.guardF; (case hj => (simp only [go_sem, Nat.reduceEqDiff, Nat.reduceAdd, reduceIte, q0, q1, q2, q3, g5, b1, b2, b3]; first | done | with_reducible rfl)))
                | (apply WO.guardU; (case hj => (simp only [go_sem, Nat.reduceEqDiff, Nat.reduceAdd, reduceIte, q0, q1, q2, q3, g5, b1, b2, b3]; first | done | with_reducible rfl)))
                | refine W.skip ?_
                | refine W.ret ?_
                | refine W.exit ?_
                | refine W.block ?_
                | (apply W.branch; (case e => (simp only [go_sem, Nat.reduceEqDiff, Nat.reduceAdd, reduceIte, q0, q1, q2, q3, g5, b1, b2, b3]; first | done | with_reducible rfl)))
                | refine WD.nil ?_
                | (apply WD.callv; (case e => (simp only [go_sem, Nat.reduceEqDiff, Nat.reduceAdd, reduceIte, q0, q1, q2, q3, g5, b1, b2, b3]; first | done | with_reducible rfl)); (case c => (simp only [go_sem, Nat.reduceEqDiff, Nat.reduceAdd, reduceIte, q0, q1, q2, q3, g5, b1, b2, b3]; first | done | with_reducible rfl)); (case hi => first | trivial | (simp only [nx_H]; done)); (case hc => rfl))
                | (apply WD.ok; (case e => (simp only [go_sem, Nat.reduceEqDiff, Nat.reduceAdd, reduceIte, q0, q1, q2, q3, g5, b1, b2, b3]; first | done | with_reducible rfl)); (case hi => first | trivial | (simp only [nx_H]; done)); (case hc => first | rfl | (simp only [eqV, beq_self_eq_true, Bool.and_self, Bool.or_true, Bool.and_true, Option.isSome_some]; done)))
                | (apply WD.guardT; (case hj => (simp only [go_sem, Nat.reduceEqDiff, Nat.reduceAdd, reduceIte, q0, q1, q2, q3, g5, b1, b2, b3]; first | done | with_reducible rfl)); (case hi => first | trivial | (simp only [nx_H]; done)))
                | (apply WD.guardF; (case hj => (simp only [go_sem, Nat.reduceEqDiff, Nat.reduceAdd, reduceIte, q0, q1, q2, q3, g5, b1, b2, b3]; first | done | with_reducible rfl)); (case hi => first | trivial | (simp only [nx_H]; done)))
                | (apply WD.guardU; (case hj => (simp only [go_sem, Nat.reduceEqDiff, Nat.reduceAdd, reduceIte, q0, q1, q2, q3, g5, b1, b2, b3]; first | done | with_reducible rfl)); (case hi => first | trivial | (simp only [nx_H]; done)))
                | with_reducible exact tf
                | with_reducible exact ft
                | intro _)
            exact ⟨rfl, by (simp only [go_sem, Nat.reduceEqDiff, Nat.reduceAdd, reduceIte, gd]; first | done | with_reducible rfl), by simp only [nx_H]; exact k2, .inr ⟨hfail (by unfold stepL; rw [if_pos z0, if_neg z3, if_neg (by intro h; omega)]), by (simp only [go_sem, Nat.reduceEqDiff, Nat.reduceAdd, reduceIte]; first | done | with_reducible rfl), by (simp only [go_sem, Nat.reduceEqDiff, Nat.reduceAdd, reduceIte]; first | done | with_reducible rfl)⟩⟩
          have b3 : decide (x.f1 ≥ (done.length : Int)) = false := decide_eq_false t3
          by_cases t4 : x.f2 = 0
          case neg =>
            have b4 : (x.f2 != 0) = true := by simp [t4]
            repeat' (first
                | refine W.seq ?_
                | refine W.wo ?_
                | refine WO.nil ?_
                | (apply WO.callv; (case e => (simp only [go_sem, Nat.reduceEqDiff, Nat.reduceAdd, reduceIte, q0, q1, q2, q3, g5, b1, b2, b3, b4]; first | done | with_reducible rfl)); (case c => (simp only [go_sem, Nat.reduceEqDiff, Nat.reduceAdd, reduceIte, q0, q1, q2, q3, g5, b1, b2, b3, b4]; first | done | with_reducible rfl)))
                | (apply WO.panicv; (case e => (simp only [go_sem, Nat.reduceEqDiff, Nat.reduceAdd, reduceIte, q0, q1, q2, q3, g5, b1, b2, b3, b4]; first | done | with_reducible rfl)))
                | (apply WO.ok; (case e => (simp only [go_sem, Nat.reduceEqDiff, Nat.reduceAdd, reduceIte, q0, q1, q2, q3, g5, b1, b2, b3, b4]; first | done | with_reducible rfl)))
                | (apply WO.guardT; (case hj => (simp only [go_sem, Nat.reduceEqDiff, Nat.reduceAdd, reduceIte, q0, q1, q2, q3, g5, b1, b2, b3, b4]; first | done | with_reducible rfl)))
                | (apply WO.guardF; (case hj => (simp only [go_sem, Nat.reduceEqDiff, Nat.reduceAdd, reduceIte, q0, q1, q2, q3, g5, b1, b2, b3, b4]; first | done | with_reducible rfl)))
                | (apply WO.guardU; (case hj => (simp only [go_sem, Nat.reduceEqDiff, Nat.reduceAdd, reduceIte, q0, q1, q2, q3, g5, b1, b2, b3, b4]; first | done | with_reducible rfl)))
                | refine W.skip ?_
                | refine W.ret ?_
                | refine W.exit ?_
                | refine W.block ?_
                | (apply W.branch; (case e => (simp only [go_sem, Nat.reduceEqDiff, Nat.reduceAdd, reduceIte, q0, q1, q2, q3, g5, b1, b2, b3, b4]; first | done | with_reducible rfl)))
                | refine WD.nil ?_
                | (apply WD.callv; (case e => (simp only [go_sem, Nat.reduceEqDiff, Nat.reduceAdd, reduceIte, q0, q1, q2, q3, g5, b1, b2, b3, b4]; first | done | with_reducible rfl)); (case c => (simp only [go_sem, Nat.reduceEqDiff, Nat.reduceAdd, reduceIte, q0, q1, q2, q3, g5, b1, b2, b3, b4]; first | done | with_reducible rfl)); (case hi => first | trivial | (simp only [nx_H]; done)); (case hc => rfl))
                | (apply WD.ok; (case e => (simp only [go_sem, Nat.reduceEqDiff, Nat.reduceAdd, reduceIte, q0, q1, q2, q3, g5, b1, b2, b3, b4]; first | done | with_reducible rfl)); (case hi => first | trivial | (simp only [nx_H]; done)); (case hc => first | rfl | (simp only [eqV, beq_self_eq_true, Bool.and_self, Bool.or_true, Bool.and_true, Option.isSome_some]; done)))
                | (apply WD.guardT; (case hj => (simp only [go_sem, Nat.reduceEqDiff, Nat.reduceAdd, reduceIte, q0, q1, q2, q3, g5, b1, b2, b3, b4]; first | done | with_reducible rfl)); (case hi => first | trivial | (simp only [nx_H]; done)))
                | (apply WD.guardF; (case hj => (simp only [go_sem, Nat.reduceEqDiff, Nat.reduceAdd, reduceIte, q0, q1, q2, q3, g5, b1, b2, b3, b4]; first | done | with_reducible rfl)); (case hi => first | trivial | (simp only [nx_H]; done)))
                | (apply WD.guardU; (case hj => (simp only [go_sem, Nat.reduceEqDiff, Nat.reduceAdd, reduceIte, q0, q1, q2, q3, g5, b1, b2, b3, b4]; first | done | with_reducible rfl)); (case hi => first | trivial | (simp only [nx_H]; done)))
                | with_reducible exact tf
                | with_reducible exact ft
                | intro _)
            exact ⟨rfl, by (simp only [go_sem, Nat.reduceEqDiff, Nat.reduceAdd, reduceIte, gd]; first | done | with_reducible rfl), by simp only [nx_H]; exact k2, .inr ⟨hfail (by unfold stepL; rw [if_pos z0, if_neg z3, if_neg (by intro h; exact t4 h.2.2.2.1)]), by (simp only [go_sem, Nat.reduceEqDiff, Nat.reduceAdd, reduceIte]; first | done | with_reducible rfl), by (simp only [go_sem, Nat.reduceEqDiff, Nat.reduceAdd, reduceIte]; first | done | with_reducible rfl)⟩⟩
          have b4 : (x.f2 != 0) = false := by simp [t4]
          obtain ⟨b, rfl, ld⟩ := blk x.f1 (by omega) (by omega)
          have l1 := ld x.f1 (by omega) (by omega)
          have a1 : (0 ≤ x.f1 ∧ x.f1 < ((done.length : Nat) : Int)) = True := by simp; omega
          have y1 := igood.rd (i := x.f1) (by omega) (by omega)
          have hb0 : (rd done x.f1 = 0) = False := by simp; omega
          have htd : Int.tdiv 1152921504606846976 (rd done x.f1) = 1152921504606846976 / rd done x.f1 := Int.tdiv_eq_ediv_of_nonneg (by omega)
          have hq1 : 0 ≤ 1152921504606846976 / rd done x.f1 := Int.ediv_nonneg (by omega) (by omega)
          have hq2 : 1152921504606846976 / rd done x.f1 ≤ 1152921504606846976 := Int.ediv_le_self _ (by omega)
          have hwq : IntKind.i64.wrap (1152921504606846976 / rd done x.f1) = 1152921504606846976 / rd done x.f1 := by
            generalize 1152921504606846976 / rd done x.f1 = q at hq1 hq2
            simp [IntKind.wrap, IntKind.bits, IntKind.signed]; omega
          by_cases t5 : x.f3 > 1152921504606846976 / rd done x.f1
          · have b5 : decide (x.f3 > 1152921504606846976 / rd done x.f1) = true := decide_eq_true t5
            repeat' (first
                | refine W.seq ?_
                | refine W.wo ?_
                | refine WO.nil ?_
                | (apply WO.callv; (case e => (simp only [go_sem, Nat.reduceEqDiff, Nat.reduceAdd, reduceIte, q0, q1, q2, q3, g4, g5, b1, b2, b3, b4, l1, a1, hb0, htd, hwq, b5]; first | done | with_reducible rfl)); (case c => (simp only [go_sem, Nat.reduceEqDiff, Nat.reduceAdd, reduceIte, q0, q1, q2, q3, g4, g5, b1, b2, b3, b4, l1, a1, hb0, htd, hwq, b5]; first | done | with_reducible rfl)))
                | (apply WO.panicv; (case e => (simp only [go_sem, Nat.reduceEqDiff, Nat.reduceAdd, reduceIte, q0, q1, q2, q3, g4, g5, b1, b2, b3, b4, l1, a1, hb0, htd, hwq, b5]; first | done | with_reducible rfl)))
                | (apply WO.ok; (case e => (simp only [go_sem, Nat.reduceEqDiff, Nat.reduceAdd, reduceIte, q0, q1, q2, q3, g4, g5, b1, b2, b3, b4, l1, a1, hb0, htd, hwq, b5]; first | done | with_reducible rfl)))
                | (apply WO.guardT; (case hj => (simp only [go_sem, Nat.reduceEqDiff, Nat.reduceAdd, reduceIte, q0, q1, q2, q3, g4, g5, b1, b2, b3, b4, l1, a1, hb0, htd, hwq, b5]; first | done | with_reducible rfl)))
                | (apply WO.guardF; (case hj => (simp only [go_sem, Nat.reduceEqDiff, Nat.reduceAdd, reduceIte, q0, q1, q2, q3, g4, g5, b1, b2, b3, b4, l1, a1, hb0, htd, hwq, b5]; first | done | with_reducible rfl)))
                | (apply WO.guardU; (case hj => (simp only [go_sem, Nat.reduceEqDiff, Nat.reduceAdd, reduceIte, q0, q1, q2, q3, g4, g5, b1, b2, b3, b4, l1, a1, hb0, htd, hwq, b5]; first | done | with_reducible rfl)))
                | refine W.skip ?_
                | refine W.ret ?_
                | refine W.exit ?_
                | refine W.block ?_
                | (apply W.branch; (case e => (simp only [go_sem, Nat.reduceEqDiff, Nat.reduceAdd, reduceIte, q0, q1, q2, q3, g4, g5, b1, b2, b3, b4, l1, a1, hb0, htd, hwq, b5]; first | done | with_reducible rfl)))
                | refine WD.nil ?_
                | (apply WD.callv; (case e => (simp only [go_sem, Nat.reduceEqDiff, Nat.reduceAdd, reduceIte, q0, q1, q2, q3, g4, g5, b1, b2, b3, b4, l1, a1, hb0, htd, hwq, b5]; first | done | with_reducible rfl)); (case c => (simp only [go_sem, Nat.reduceEqDiff, Nat.reduceAdd, reduceIte, q0, q1, q2, q3, g4, g5, b1, b2, b3, b4, l1, a1, hb0, htd, hwq, b5]; first | done | with_reducible rfl)); (case hi => first | trivial | (simp only [nx_H]; done)); (case hc => rfl))
                | (apply WD.ok; (case e => (simp only [go_sem, Nat.reduceEqDiff, Nat.reduceAdd, reduceIte, q0, q1, q2, q3, g4, g5, b1, b2, b3, b4, l1, a1, hb0, htd, hwq, b5]; first | done | with_reducible rfl)); (case hi => first | trivial | (simp only [nx_H]; done)); (case hc => first | rfl | (simp only [eqV, beq_self_eq_true, Bool.and_self, Bool.or_true, Bool.and_true, Option.isSome_some]; done)))
                | (apply WD.guardT; (case hj => (simp only [go_sem, Nat.reduceEqDiff, Nat.reduceAdd, reduceIte, q0, q1, q2, q3, g4, g5, b1, b2, b3, b4, l1, a1, hb0, htd, hwq, b5]; first | done | with_reducible rfl)); (case hi => first | trivial | (simp only [nx_H]; done)))
                | (apply WD.guardF; (case hj => (simp only [go_sem, Nat.reduceEqDiff, Nat.reduceAdd, reduceIte, q0, q1, q2, q3, g4, g5, b1, b2, b3, b4, l1, a1, hb0, htd, hwq, b5]; first | done | with_reducible rfl)); (case hi => first | trivial | (simp only [nx_H]; done)))
                | (apply WD.guardU; (case hj => (simp only [go_sem, Nat.reduceEqDiff, Nat.reduceAdd, reduceIte, q0, q1, q2, q3, g4, g5, b1, b2, b3, b4, l1, a1, hb0, htd, hwq, b5]; first | done | with_reducible rfl)); (case hi => first | trivial | (simp only [nx_H]; done)))
                | with_reducible exact tf
                | with_reducible exact ft
                | intro _)
            exact ⟨rfl, by (simp only [go_sem, Nat.reduceEqDiff, Nat.reduceAdd, reduceIte, gd]; first | done | with_reducible rfl), by simp only [nx_H]; exact k2, .inr ⟨hfail (by unfold stepL; rw [if_pos z0, if_neg z3, if_neg (by intro h; have := h.2.2.2.2; omega)]), by (simp only [go_sem, Nat.reduceEqDiff, Nat.reduceAdd, reduceIte]; first | done | with_reducible rfl), by (simp only [go_sem, Nat.reduceEqDiff, Nat.reduceAdd, reduceIte]; first | done | with_reducible rfl)⟩⟩
          have b5 : decide (x.f3 > 1152921504606846976 / rd done x.f1) = false := decide_eq_false t5
          have hs : stepL done x = some (x.f3 * rd done x.f1) := by unfold stepL; rw [if_pos z0, if_neg z3, if_pos ⟨by omega, by omega, by omega, t4, by omega⟩]
          have hsg := stepL_good igood hs
          have hwm : IntKind.i64.wrap (x.f3 * rd done x.f1) = x.f3 * rd done x.f1 := by
            generalize x.f3 * rd done x.f1 = q at hsg
            simp [IntKind.wrap, IntKind.bits, IntKind.signed]; omega
          obtain ⟨H4, happ4, hk4, ho4⟩ := happ (x.f3 * rd done x.f1)
          repeat' (first
              | refine W.seq ?_
              | refine W.wo ?_
              | refine WO.nil ?_
              | (apply WO.callv; (case e => (simp only [go_sem, Nat.reduceEqDiff, Nat.reduceAdd, reduceIte, q0, q1, q2, q3, g4, g5, b1, b2, b3, b4, l1, a1, hb0, htd, hwq, b5]; first | done | with_reducible rfl)); (case c => (simp only [go_sem, Nat.reduceEqDiff, Nat.reduceAdd, reduceIte, q0, q1, q2, q3, g4, g5, b1, b2, b3, b4, l1, a1, hb0, htd, hwq, b5]; first | done | with_reducible rfl)))
              | (apply WO.panicv; (case e => (simp only [go_sem, Nat.reduceEqDiff, Nat.reduceAdd, reduceIte, q0, q1, q2, q3, g4, g5, b1, b2, b3, b4, l1, a1, hb0, htd, hwq, b5]; first | done | with_reducible rfl)))
              | (apply WO.ok; (case e => (simp only [go_sem, Nat.reduceEqDiff, Nat.reduceAdd, reduceIte, q0, q1, q2, q3, g4, g5, b1, b2, b3, b4, l1, a1, hb0, htd, hwq, b5]; first | done | with_reducible rfl)))
              | (apply WO.guardT; (case hj => (simp only [go_sem, Nat.reduceEqDiff, Nat.reduceAdd, reduceIte, q0, q1, q2, q3, g4, g5, b1, b2, b3, b4, l1, a1, hb0, htd, hwq, b5]; first | done | with_reducible rfl)))
              | (apply WO.guardF; (case hj => (simp only [go_sem, Nat.reduceEqDiff, Nat.reduceAdd, reduceIte, q0, q1, q2, q3, g4, g5, b1, b2, b3, b4, l1, a1, hb0, htd, hwq, b5]; first | done | with_reducible rfl)))
              | (apply WO.guardU; (case hj => (simp only [go_sem, Nat.reduceEqDiff, Nat.reduceAdd, reduceIte, q0, q1, q2, q3, g4, g5, b1, b2, b3, b4, l1, a1, hb0, htd, hwq, b5]; first | done | with_reducible rfl)))
              | refine W.skip ?_
              | refine W.ret ?_
              | refine W.exit ?_
              | refine W.block ?_
              | (apply W.branch; (case e => (simp only [go_sem, Nat.reduceEqDiff, Nat.reduceAdd, reduceIte, q0, q1, q2, q3, g4, g5, b1, b2, b3, b4, l1, a1, hb0, htd, hwq, b5]; first | done | with_reducible rfl)))
              | refine WD.nil ?_
              | (apply WD.callv; (case e => (simp only [go_sem, Nat.reduceEqDiff, Nat.reduceAdd, reduceIte, q0, q1, q2, q3, g4, g5, b1, b2, b3, b4, l1, a1, hb0, htd, hwq, b5]; first | done | with_reducible rfl)); (case c => (simp only [go_sem, Nat.reduceEqDiff, Nat.reduceAdd, reduceIte, q0, q1, q2, q3, g4, g5, b1, b2, b3, b4, l1, a1, hb0, htd, hwq, b5]; first | done | with_reducible rfl)); (case hi => first | trivial | (simp only [nx_H]; done)); (case hc => rfl))
              | (apply WD.ok; (case e => (simp only [go_sem, Nat.reduceEqDiff, Nat.reduceAdd, reduceIte, q0, q1, q2, q3, g4, g5, b1, b2, b3, b4, l1, a1, hb0, htd, hwq, b5]; first | done | with_reducible rfl)); (case hi => first | trivial | (simp only [nx_H]; done)); (case hc => first | rfl | (simp only [eqV, beq_self_eq_true, Bool.and_self, Bool.or_true, Bool.and_true, Option.isSome_some]; done)))
              | (apply WD.guardT; (case hj => (simp only [go_sem, Nat.reduceEqDiff, Nat.reduceAdd, reduceIte, q0, q1, q2, q3, g4, g5, b1, b2, b3, b4, l1, a1, hb0, htd, hwq, b5]; first | done | with_reducible rfl)); (case hi => first | trivial | (simp only [nx_H]; done)))
              | (apply WD.guardF; (case hj => (simp only [go_sem, Nat.reduceEqDiff, Nat.reduceAdd, reduceIte, q0, q1, q2, q3, g4, g5, b1, b2, b3, b4, l1, a1, hb0, htd, hwq, b5]; first | done | with_reducible rfl)); (case hi => first | trivial | (simp only [nx_H]; done)))
              | (apply WD.guardU; (case hj => (simp only [go_sem, Nat.reduceEqDiff, Nat.reduceAdd, reduceIte, q0, q1, q2, q3, g4, g5, b1, b2, b3, b4, l1, a1, hb0, htd, hwq, b5]; first | done | with_reducible rfl)); (case hi => first | trivial | (simp only [nx_H]; done)))
              | with_reducible exact tf
              | with_reducible exact ft
              | intro _)
          apply W.wq
          case hg => kernel_rfl
          repeat' (first
              | refine W.seq ?_
              | refine W.wo ?_
              | refine WO.nil ?_
              | (apply WO.callv; (case e => (simp only [go_sem, Nat.reduceEqDiff, Nat.reduceAdd, reduceIte, q0, q1, q2, q3, g4, l1, a1, hwm, hM2, hfill, happ4, g5, hw]; first | done | with_reducible rfl)); (case c => (simp only [go_sem, Nat.reduceEqDiff, Nat.reduceAdd, reduceIte, q0, q1, q2, q3, g4, l1, a1, hwm, hM2, hfill, happ4, g5, hw]; first | done | with_reducible rfl)))
              | (apply WO.panicv; (case e => (simp only [go_sem, Nat.reduceEqDiff, Nat.reduceAdd, reduceIte, q0, q1, q2, q3, g4, l1, a1, hwm, hM2, hfill, happ4, g5, hw]; first | done | with_reducible rfl)))
              | (apply WO.ok; (case e => (simp only [go_sem, Nat.reduceEqDiff, Nat.reduceAdd, reduceIte, q0, q1, q2, q3, g4, l1, a1, hwm, hM2, hfill, happ4, g5, hw]; first | done | with_reducible rfl)))
              | (apply WO.guardT; (case hj => (simp only [go_sem, Nat.reduceEqDiff, Nat.reduceAdd, reduceIte, q0, q1, q2, q3, g4, l1, a1, hwm, hM2, hfill, happ4, g5, hw]; first | done | with_reducible rfl)))
              | (apply WO.guardF; (case hj => (simp only [go_sem, Nat.reduceEqDiff, Nat.reduceAdd, reduceIte, q0, q1, q2, q3, g4, l1, a1, hwm, hM2, hfill, happ4, g5, hw]; first | done | with_reducible rfl)))
              | (apply WO.guardU; (case hj => (simp only [go_sem, Nat.reduceEqDiff, Nat.reduceAdd, reduceIte, q0, q1, q2, q3, g4, l1, a1, hwm, hM2, hfill, happ4, g5, hw]; first | done | with_reducible rfl)))
              | refine W.skip ?_
              | refine W.ret ?_
              | refine W.exit ?_
              | refine W.block ?_
              | (apply W.branch; (case e => (simp only [go_sem, Nat.reduceEqDiff, Nat.reduceAdd, reduceIte, q0, q1, q2, q3, g4, l1, a1, hwm, hM2, hfill, happ4, g5, hw]; first | done | with_reducible rfl)))
              | refine WD.nil ?_
              | (apply WD.callv; (case e => (simp only [go_sem, Nat.reduceEqDiff, Nat.reduceAdd, reduceIte, q0, q1, q2, q3, g4, l1, a1, hwm, hM2, hfill, happ4, g5, hw]; first | done | with_reducible rfl)); (case c => (simp only [go_sem, Nat.reduceEqDiff, Nat.reduceAdd, reduceIte, q0, q1, q2, q3, g4, l1, a1, hwm, hM2, hfill, happ4, g5, hw]; first | done | with_reducible rfl)); (case hi => first | trivial | (simp only [nx_H]; done)); (case hc => rfl))
              | (apply WD.ok; (case e => (simp only [go_sem, Nat.reduceEqDiff, Nat.reduceAdd, reduceIte, q0, q1, q2, q3, g4, l1, a1, hwm, hM2, hfill, happ4, g5, hw]; first | done | with_reducible rfl)); (case hi => first | trivial | (simp only [nx_H]; done)); (case hc => first | rfl | (simp only [eqV, beq_self_eq_true, Bool.and_self, Bool.or_true, Bool.and_true, Option.isSome_some]; done)))
              | (apply WD.guardT; (case hj => (simp only [go_sem, Nat.reduceEqDiff, Nat.reduceAdd, reduceIte, q0, q1, q2, q3, g4, l1, a1, hwm, hM2, hfill, happ4, g5, hw]; first | done | with_reducible rfl)); (case hi => first | trivial | (simp only [nx_H]; done)))
              | (apply WD.guardF; (case hj => (simp only [go_sem, Nat.reduceEqDiff, Nat.reduceAdd, reduceIte, q0, q1, q2, q3, g4, l1, a1, hwm, hM2, hfill, happ4, g5, hw]; first | done | with_reducible rfl)); (case hi => first | trivial | (simp only [nx_H]; done)))
              | (apply WD.guardU; (case hj => (simp only [go_sem, Nat.reduceEqDiff, Nat.reduceAdd, reduceIte, q0, q1, q2, q3, g4, l1, a1, hwm, hM2, hfill, happ4, g5, hw]; first | done | with_reducible rfl)); (case hi => first | trivial | (simp only [nx_H]; done)))
              | with_reducible exact tf
              | with_reducible exact ft
              | intro _)
          exact fin (x.f3 * rd done x.f1) _ hs (by (simp only [go_sem, Nat.reduceEqDiff, Nat.reduceAdd, reduceIte, g0]; first | done | with_reducible rfl)) (by (simp only [go_sem, Nat.reduceEqDiff, Nat.reduceAdd, reduceIte, hw]; first | done | with_reducible rfl)) (by (simp only [go_sem, Nat.reduceEqDiff, Nat.reduceAdd, reduceIte, gd]; first | done | with_reducible rfl)) (by (simp only [go_sem, Nat.reduceEqDiff, Nat.reduceAdd, reduceIte]; first | done | with_reducible rfl)) (by simp only [nx_H]; exact hk4) (by simp only [nx_H]; exact ho4)
      · have e0 : (!(x.f0.toList == (⟨#[]⟩ : ByteArray).toList)) = true := by rw [str_empty]; simp [z0]
        have h21 := K21 x.f0 100 H2 hxs
        cases hwd : (allLB x.f0 && decide ((x.f0.size : Int) ≤ 100)) with
        | false =>
          repeat' (first
              | refine W.seq ?_
              | refine W.wo ?_
              | refine WO.nil ?_
              | (apply WO.callv; (case e => (simp only [go_sem, Nat.reduceEqDiff, Nat.reduceAdd, reduceIte, q0, q1, q2, q3, e0, h21, hwd]; first | done | with_reducible rfl)); (case c => (simp only [go_sem, Nat.reduceEqDiff, Nat.reduceAdd, reduceIte, q0, q1, q2, q3, e0, h21, hwd]; first | done | with_reducible rfl)))
              | (apply WO.panicv; (case e => (simp only [go_sem, Nat.reduceEqDiff, Nat.reduceAdd, reduceIte, q0, q1, q2, q3, e0, h21, hwd]; first | done | with_reducible rfl)))
              | (apply WO.ok; (case e => (simp only [go_sem, Nat.reduceEqDiff, Nat.reduceAdd, reduceIte, q0, q1, q2, q3, e0, h21, hwd]; first | done | with_reducible rfl)))
              | (apply WO.guardT; (case hj => (simp only [go_sem, Nat.reduceEqDiff, Nat.reduceAdd, reduceIte, q0, q1, q2, q3, e0, h21, hwd]; first | done | with_reducible rfl)))
              | (apply WO.guardF; (case hj => (simp only [go_sem, Nat.reduceEqDiff, Nat.reduceAdd, reduceIte, q0, q1, q2, q3, e0, h21, hwd]; first | done | with_reducible rfl)))
              | (apply WO.guardU; (case hj => (simp only [go_sem, Nat.reduceEqDiff, Nat.reduceAdd, reduceIte, q0, q1, q2, q3, e0, h21, hwd]; first | done | with_reducible rfl)))
              | refine W.skip ?_
              | refine W.ret ?_
              | refine W.exit ?_
              | refine W.block ?_
              | (apply W.branch; (case e => (simp only [go_sem, Nat.reduceEqDiff, Nat.reduceAdd, reduceIte, q0, q1, q2, q3, e0, h21, hwd]; first | done | with_reducible rfl)))
              | refine WD.nil ?_
              | (apply WD.callv; (case e => (simp only [go_sem, Nat.reduceEqDiff, Nat.reduceAdd, reduceIte, q0, q1, q2, q3, e0, h21, hwd]; first | done | with_reducible rfl)); (case c => (simp only [go_sem, Nat.reduceEqDiff, Nat.reduceAdd, reduceIte, q0, q1, q2, q3, e0, h21, hwd]; first | done | with_reducible rfl)); (case hi => first | trivial | (simp only [nx_H]; done)); (case hc => rfl))
              | (apply WD.ok; (case e => (simp only [go_sem, Nat.reduceEqDiff, Nat.reduceAdd, reduceIte, q0, q1, q2, q3, e0, h21, hwd]; first | done | with_reducible rfl)); (case hi => first | trivial | (simp only [nx_H]; done)); (case hc => first | rfl | (simp only [eqV, beq_self_eq_true, Bool.and_self, Bool.or_true, Bool.and_true, Option.isSome_some]; done)))
              | (apply WD.guardT; (case hj => (simp only [go_sem, Nat.reduceEqDiff, Nat.reduceAdd, reduceIte, q0, q1, q2, q3, e0, h21, hwd]; first | done | with_reducible rfl)); (case hi => first | trivial | (simp only [nx_H]; done)))
              | (apply WD.guardF; (case hj => (simp only [go_sem, Nat.reduceEqDiff, Nat.reduceAdd, reduceIte, q0, q1, q2, q3, e0, h21, hwd]; first | done | with_reducible rfl)); (case hi => first | trivial | (simp only [nx_H]; done)))
              | (apply WD.guardU; (case hj => (simp only [go_sem, Nat.reduceEqDiff, Nat.reduceAdd, reduceIte, q0, q1, q2, q3, e0, h21, hwd]; first | done | with_reducible rfl)); (case hi => first | trivial | (simp only [nx_H]; done)))
              | with_reducible exact tf
              | with_reducible exact ft
              | intro _)
          exact ⟨rfl, by (simp only [go_sem, Nat.reduceEqDiff, Nat.reduceAdd, reduceIte, gd]; first | done | with_reducible rfl), by simp only [nx_H]; exact k2, .inr ⟨hfail (by unfold stepL checkS; rw [if_neg z0, if_neg (by intro h; rw [if_pos (by omega)] at h; split at h; (· rename_i ha; rw [ha] at hwd; simp at hwd; omega); (· exact absurd h.2.2.2.2 (by decide)))]), by (simp only [go_sem, Nat.reduceEqDiff, Nat.reduceAdd, reduceIte]; first | done | with_reducible rfl), by (simp only [go_sem, Nat.reduceEqDiff, Nat.reduceAdd, reduceIte]; first | done | with_reducible rfl)⟩⟩
        | true =>
        have hck : checkS x.f0 = 0 ∧ x.f0.size ≤ 100 := by
          simp only [Bool.and_eq_true, decide_eq_true_eq] at hwd
          refine ⟨?_, by omega⟩
          unfold checkS
          rw [if_pos (by omega), if_pos hwd.1]
        by_cases p0 : x.f1 = 0
        case neg =>
          have b0 : (x.f1 != 0) = true := by simp [p0]
          repeat' (first
              | refine W.seq ?_
              | refine W.wo ?_
              | refine WO.nil ?_
              | (apply WO.callv; (case e => (simp only [go_sem, Nat.reduceEqDiff, Nat.reduceAdd, reduceIte, q0, q1, q2, q3, e0, h21, hwd, b0]; first | done | with_reducible rfl)); (case c => (simp only [go_sem, Nat.reduceEqDiff, Nat.reduceAdd, reduceIte, q0, q1, q2, q3, e0, h21, hwd, b0]; first | done | with_reducible rfl)))
              | (apply WO.panicv; (case e => (simp only [go_sem, Nat.reduceEqDiff, Nat.reduceAdd, reduceIte, q0, q1, q2, q3, e0, h21, hwd, b0]; first | done | with_reducible rfl)))
              | (apply WO.ok; (case e => (simp only [go_sem, Nat.reduceEqDiff, Nat.reduceAdd, reduceIte, q0, q1, q2, q3, e0, h21, hwd, b0]; first | done | with_reducible rfl)))
              | (apply WO.guardT; (case hj => (simp only [go_sem, Nat.reduceEqDiff, Nat.reduceAdd, reduceIte, q0, q1, q2, q3, e0, h21, hwd, b0]; first | done | with_reducible rfl)))
              | (apply WO.guardF; (case hj => (simp only [go_sem, Nat.reduceEqDiff, Nat.reduceAdd, reduceIte, q0, q1, q2, q3, e0, h21, hwd, b0]; first | done | with_reducible rfl)))
              | (apply WO.guardU; (case hj => (simp only [go_sem, Nat.reduceEqDiff, Nat.reduceAdd, reduceIte, q0, q1, q2, q3, e0, h21, hwd, b0]; first | done | with_reducible rfl)))
              | refine W.skip ?_
              | refine W.ret ?_
              | refine W.exit ?_
              | refine W.block ?_
              | (apply W.branch; (case e => (simp only [go_sem, Nat.reduceEqDiff, Nat.reduceAdd, reduceIte, q0, q1, q2, q3, e0, h21, hwd, b0]; first | done | with_reducible rfl)))
              | refine WD.nil ?_
              | (apply WD.callv; (case e => (simp only [go_sem, Nat.reduceEqDiff, Nat.reduceAdd, reduceIte, q0, q1, q2, q3, e0, h21, hwd, b0]; first | done | with_reducible rfl)); (case c => (simp only [go_sem, Nat.reduceEqDiff, Nat.reduceAdd, reduceIte, q0, q1, q2, q3, e0, h21, hwd, b0]; first | done | with_reducible rfl)); (case hi => first | trivial | (simp only [nx_H]; done)); (case hc => rfl))
              | (apply WD.ok; (case e => (simp only [go_sem, Nat.reduceEqDiff, Nat.reduceAdd, reduceIte, q0, q1, q2, q3, e0, h21, hwd, b0]; first | done | with_reducible rfl)); (case hi => first | trivial | (simp only [nx_H]; done)); (case hc => first | rfl | (simp only [eqV, beq_self_eq_true, Bool.and_self, Bool.or_true, Bool.and_true, Option.isSome_some]; done)))
              | (apply WD.guardT; (case hj => (simp only [go_sem, Nat.reduceEqDiff, Nat.reduceAdd, reduceIte, q0, q1, q2, q3, e0, h21, hwd, b0]; first | done | with_reducible rfl)); (case hi => first | trivial | (simp only [nx_H]; done)))
              | (apply WD.guardF; (case hj => (simp only [go_sem, Nat.reduceEqDiff, Nat.reduceAdd, reduceIte, q0, q1, q2, q3, e0, h21, hwd, b0]; first | done | with_reducible rfl)); (case hi => first | trivial | (simp only [nx_H]; done)))
              | (apply WD.guardU; (case hj => (simp only [go_sem, Nat.reduceEqDiff, Nat.reduceAdd, reduceIte, q0, q1, q2, q3, e0, h21, hwd, b0]; first | done | with_reducible rfl)); (case hi => first | trivial | (simp only [nx_H]; done)))
              | with_reducible exact tf
              | with_reducible exact ft
              | intro _)
          exact ⟨rfl, by (simp only [go_sem, Nat.reduceEqDiff, Nat.reduceAdd, reduceIte, gd]; first | done | with_reducible rfl), by simp only [nx_H]; exact k2, .inr ⟨hfail (by unfold stepL; rw [if_neg z0, if_neg (by omega)]), by (simp only [go_sem, Nat.reduceEqDiff, Nat.reduceAdd, reduceIte]; first | done | with_reducible rfl), by (simp only [go_sem, Nat.reduceEqDiff, Nat.reduceAdd, reduceIte]; first | done | with_reducible rfl)⟩⟩
        have b0 : (x.f1 != 0) = false := by simp [p0]
        by_cases p1 : x.f2 = 0
        case neg =>
          have b1 : (x.f2 != 0) = true := by simp [p1]
          repeat' (first
              | refine W.seq ?_
              | refine W.wo ?_
              | refine WO.nil ?_
              | (apply WO.callv; (case e => (simp only [go_sem, Nat.reduceEqDiff, Nat.reduceAdd, reduceIte, q0, q1, q2, q3, e0, h21, hwd, b0, b1]; first | done | with_reducible rfl)); (case c => (simp only [go_sem, Nat.reduceEqDiff, Nat.reduceAdd, reduceIte, q0, q1, q2, q3, e0, h21, hwd, b0, b1]; first | done | with_reducible rfl)))
              | (apply WO.panicv; (case e => (simp only [go_sem, Nat.reduceEqDiff, Nat.reduceAdd, reduceIte, q0, q1, q2, q3, e0, h21, hwd, b0, b1]; first | done | with_reducible rfl)))
              | (apply WO.ok; (case e => (simp only [go_sem, Nat.reduceEqDiff, Nat.reduceAdd, reduceIte, q0, q1, q2, q3, e0, h21, hwd, b0, b1]; first | done | with_reducible rfl)))
              | (apply WO.guardT; (case hj => (simp only [go_sem, Nat.reduceEqDiff, Nat.reduceAdd, reduceIte, q0, q1, q2, q3, e0, h21, hwd, b0, b1]; first | done | with_reducible rfl)))
              | (apply WO.guardF; (case hj => (simp only [go_sem, Nat.reduceEqDiff, Nat.reduceAdd, reduceIte, q0, q1, q2, q3, e0, h21, hwd, b0, b1]; first | done | with_reducible rfl)))
              | (apply WO.guardU; (case hj => (simp only [go_sem, Nat.reduceEqDiff, Nat.reduceAdd, reduceIte, q0, q1, q2, q3, e0, h21, hwd, b0, b1]; first | done | with_reducible rfl)))
              | refine W.skip ?_
              | refine W.ret ?_
              | refine W.exit ?_
              | refine W.block ?_
              | (apply W.branch; (case e => (simp only [go_sem, Nat.reduceEqDiff, Nat.reduceAdd, reduceIte, q0, q1, q2, q3, e0, h21, hwd, b0, b1]; first | done | with_reducible rfl)))
              | refine WD.nil ?_
              | (apply WD.callv; (case e => (simp only [go_sem, Nat.reduceEqDiff, Nat.reduceAdd, reduceIte, q0, q1, q2, q3, e0, h21, hwd, b0, b1]; first | done | with_reducible rfl)); (case c => (simp only [go_sem, Nat.reduceEqDiff, Nat.reduceAdd, reduceIte, q0, q1, q2, q3, e0, h21, hwd, b0, b1]; first | done | with_reducible rfl)); (case hi => first | trivial | (simp only [nx_H]; done)); (case hc => rfl))
              | (apply WD.ok; (case e => (simp only [go_sem, Nat.reduceEqDiff, Nat.reduceAdd, reduceIte, q0, q1, q2, q3, e0, h21, hwd, b0, b1]; first | done | with_reducible rfl)); (case hi => first | trivial | (simp only [nx_H]; done)); (case hc => first | rfl | (simp only [eqV, beq_self_eq_true, Bool.and_self, Bool.or_true, Bool.and_true, Option.isSome_some]; done)))
              | (apply WD.guardT; (case hj => (simp only [go_sem, Nat.reduceEqDiff, Nat.reduceAdd, reduceIte, q0, q1, q2, q3, e0, h21, hwd, b0, b1]; first | done | with_reducible rfl)); (case hi => first | trivial | (simp only [nx_H]; done)))
              | (apply WD.guardF; (case hj => (simp only [go_sem, Nat.reduceEqDiff, Nat.reduceAdd, reduceIte, q0, q1, q2, q3, e0, h21, hwd, b0, b1]; first | done | with_reducible rfl)); (case hi => first | trivial | (simp only [nx_H]; done)))
              | (apply WD.guardU; (case hj => (simp only [go_sem, Nat.reduceEqDiff, Nat.reduceAdd, reduceIte, q0, q1, q2, q3, e0, h21, hwd, b0, b1]; first | done | with_reducible rfl)); (case hi => first | trivial | (simp only [nx_H]; done)))
              | with_reducible exact tf
              | with_reducible exact ft
              | intro _)
          exact ⟨rfl, by (simp only [go_sem, Nat.reduceEqDiff, Nat.reduceAdd, reduceIte, gd]; first | done | with_reducible rfl), by simp only [nx_H]; exact k2, .inr ⟨hfail (by unfold stepL; rw [if_neg z0, if_neg (by omega)]), by (simp only [go_sem, Nat.reduceEqDiff, Nat.reduceAdd, reduceIte]; first | done | with_reducible rfl), by (simp only [go_sem, Nat.reduceEqDiff, Nat.reduceAdd, reduceIte]; first | done | with_reducible rfl)⟩⟩
        have b1 : (x.f2 != 0) = false := by simp [p1]
        by_cases p2 : x.f3 = 0
        case neg =>
          have b2 : (x.f3 != 0) = true := by simp [p2]
          repeat' (first
              | refine W.seq ?_
              | refine W.wo ?_
              | refine WO.nil ?_
              | (apply WO.callv; (case e => (simp only [go_sem, Nat.reduceEqDiff, Nat.reduceAdd, reduceIte, q0, q1, q2, q3, e0, h21, hwd, b0, b1, b2]; first | done | with_reducible rfl)); (case c => (simp only [go_sem, Nat.reduceEqDiff, Nat.reduceAdd, reduceIte, q0, q1, q2, q3, e0, h21, hwd, b0, b1, b2]; first | done | with_reducible rfl)))
              | (apply WO.panicv; (case e => (simp only [go_sem, Nat.reduceEqDiff, Nat.reduceAdd, reduceIte, q0, q1, q2, q3, e0, h21, hwd, b0, b1, b2]; first | done | with_reducible rfl)))
              | (apply WO.ok; (case e => (simp only [go_sem, Nat.reduceEqDiff, Nat.reduceAdd, reduceIte, q0, q1, q2, q3, e0, h21, hwd, b0, b1, b2]; first | done | with_reducible rfl)))
              | (apply WO.guardT; (case hj => (simp only [go_sem, Nat.reduceEqDiff, Nat.reduceAdd, reduceIte, q0, q1, q2, q3, e0, h21, hwd, b0, b1, b2]; first | done | with_reducible rfl)))
              | (apply WO.guardF; (case hj => (simp only [go_sem, Nat.reduceEqDiff, Nat.reduceAdd, reduceIte, q0, q1, q2, q3, e0, h21, hwd, b0, b1, b2]; first | done | with_reducible rfl)))
              | (apply WO.guardU; (case hj => (simp only [go_sem, Nat.reduceEqDiff, Nat.reduceAdd, reduceIte, q0, q1, q2, q3, e0, h21, hwd, b0, b1, b2]; first | done | with_reducible rfl)))
              | refine W.skip ?_
              | refine W.ret ?_
              | refine W.exit ?_
              | refine W.block ?_
              | (apply W.branch; (case e => (simp only [go_sem, Nat.reduceEqDiff, Nat.reduceAdd, reduceIte, q0, q1, q2, q3, e0, h21, hwd, b0, b1, b2]; first | done | with_reducible rfl)))
              | refine WD.nil ?_
              | (apply WD.callv; (case e => (simp only [go_sem, Nat.reduceEqDiff, Nat.reduceAdd, reduceIte, q0, q1, q2, q3, e0, h21, hwd, b0, b1, b2]; first | done | with_reducible rfl)); (case c => (simp only [go_sem, Nat.reduceEqDiff, Nat.reduceAdd, reduceIte, q0, q1, q2, q3, e0, h21, hwd, b0, b1, b2]; first | done | with_reducible rfl)); (case hi => first | trivial | (simp only [nx_H]; done)); (case hc => rfl))
              | (apply WD.ok; (case e => (simp only [go_sem, Nat.reduceEqDiff, Nat.reduceAdd, reduceIte, q0, q1, q2, q3, e0, h21, hwd, b0, b1, b2]; first | done | with_reducible rfl)); (case hi => first | trivial | (simp only [nx_H]; done)); (case hc => first | rfl | (simp only [eqV, beq_self_eq_true, Bool.and_self, Bool.or_true, Bool.and_true, Option.isSome_some]; done)))
              | (apply WD.guardT; (case hj => (simp only [go_sem, Nat.reduceEqDiff, Nat.reduceAdd, reduceIte, q0, q1, q2, q3, e0, h21, hwd, b0, b1, b2]; first | done | with_reducible rfl)); (case hi => first | trivial | (simp only [nx_H]; done)))
              | (apply WD.guardF; (case hj => (simp only [go_sem, Nat.reduceEqDiff, Nat.reduceAdd, reduceIte, q0, q1, q2, q3, e0, h21, hwd, b0, b1, b2]; first | done | with_reducible rfl)); (case hi => first | trivial | (simp only [nx_H]; done)))
              | (apply WD.guardU; (case hj => (simp only [go_sem, Nat.reduceEqDiff, Nat.reduceAdd, reduceIte, q0, q1, q2, q3, e0, h21, hwd, b0, b1, b2]; first | done | with_reducible rfl)); (case hi => first | trivial | (simp only [nx_H]; done)))
              | with_reducible exact tf
              | with_reducible exact ft
              | intro _)
          exact ⟨rfl, by (simp only [go_sem, Nat.reduceEqDiff, Nat.reduceAdd, reduceIte, gd]; first | done | with_reducible rfl), by simp only [nx_H]; exact k2, .inr ⟨hfail (by unfold stepL; rw [if_neg z0, if_neg (by omega)]), by (simp only [go_sem, Nat.reduceEqDiff, Nat.reduceAdd, reduceIte]; first | done | with_reducible rfl), by (simp only [go_sem, Nat.reduceEqDiff, Nat.reduceAdd, reduceIte]; first | done | with_reducible rfl)⟩⟩
        have b2 : (x.f3 != 0) = false := by simp [p2]
        have hs : stepL done x = some (x.f0.size : Int) := by unfold stepL; rw [if_neg z0, if_pos ⟨hck.2, p0, p1, p2, hck.1⟩]
        obtain ⟨H4, happ4, hk4, ho4⟩ := happ (x.f0.size : Int)
        repeat' (first
            | refine W.seq ?_
            | refine W.wo ?_
            | refine WO.nil ?_
            | (apply WO.callv; (case e => (simp only [go_sem, Nat.reduceEqDiff, Nat.reduceAdd, reduceIte, q0, q1, q2, q3, g4, e0, h21, hwd, b0, b1, b2, hM2, hfill, happ4, g5, hw]; first | done | with_reducible rfl)); (case c => (simp only [go_sem, Nat.reduceEqDiff, Nat.reduceAdd, reduceIte, q0, q1, q2, q3, g4, e0, h21, hwd, b0, b1, b2, hM2, hfill, happ4, g5, hw]; first | done | with_reducible rfl)))
            | (apply WO.panicv; (case e => (simp only [go_sem, Nat.reduceEqDiff, Nat.reduceAdd, reduceIte, q0, q1, q2, q3, g4, e0, h21, hwd, b0, b1, b2, hM2, hfill, happ4, g5, hw]; first | done | with_reducible rfl)))
            | (apply WO.ok; (case e => (simp only [go_sem, Nat.reduceEqDiff, Nat.reduceAdd, reduceIte, q0, q1, q2, q3, g4, e0, h21, hwd, b0, b1, b2, hM2, hfill, happ4, g5, hw]; first | done | with_reducible rfl)))
            | (apply WO.guardT; (case hj => (simp only [go_sem, Nat.reduceEqDiff, Nat.reduceAdd, reduceIte, q0, q1, q2, q3, g4, e0, h21, hwd, b0, b1, b2, hM2, hfill, happ4, g5, hw]; first | done | with_reducible rfl)))
            | (apply WO.guardF; (case hj => (simp only [go_sem, Nat.reduceEqDiff, Nat.reduceAdd, reduceIte, q0, q1, q2, q3, g4, e0, h21, hwd, b0, b1, b2, hM2, hfill, happ4, g5, hw]; first | done | with_reducible rfl)))
            | (apply WO.guardU; (case hj => (simp only [go_sem, Nat.reduceEqDiff, Nat.reduceAdd, reduceIte, q0, q1, q2, q3, g4, e0, h21, hwd, b0, b1, b2, hM2, hfill, happ4, g5, hw]; first | done | with_reducible rfl)))
            | refine W.skip ?_
            | refine W.ret ?_
            | refine W.exit ?_
            | refine W.block ?_
            | (apply W.branch; (case e => (simp only [go_sem, Nat.reduceEqDiff, Nat.reduceAdd, reduceIte, q0, q1, q2, q3, g4, e0, h21, hwd, b0, b1, b2, hM2, hfill, happ4, g5, hw]; first | done | with_reducible rfl)))
            | refine WD.nil ?_
            | (apply WD.callv; (case e => (simp only [go_sem, Nat.reduceEqDiff, Nat.reduceAdd, reduceIte, q0, q1, q2, q3, g4, e0, h21, hwd, b0, b1, b2, hM2, hfill, happ4, g5, hw]; first | done | with_reducible rfl)); (case c => (simp only [go_sem, Nat.reduceEqDiff, Nat.reduceAdd, reduceIte, q0, q1, q2, q3, g4, e0, h21, hwd, b0, b1, b2, hM2, hfill, happ4, g5, hw]; first | done | with_reducible rfl)); (case hi => first | trivial | (simp only [nx_H]; done)); (case hc => rfl))
            | (apply WD.ok; (case e => (simp only [go_sem, Nat.reduceEqDiff, Nat.reduceAdd, reduceIte, q0, q1, q2, q3, g4, e0, h21, hwd, b0, b1, b2, hM2, hfill, happ4, g5, hw]; first | done | with_reducible rfl)); (case hi => first | trivial | (simp only [nx_H]; done)); (case hc => first | rfl | (simp only [eqV, beq_self_eq_true, Bool.and_self, Bool.or_true, Bool.and_true, Option.isSome_some]; done)))
            | (apply WD.guardT; (case hj => (simp only [go_sem, Nat.reduceEqDiff, Nat.reduceAdd, reduceIte, q0, q1, q2, q3, g4, e0, h21, hwd, b0, b1, b2, hM2, hfill, happ4, g5, hw]; first | done | with_reducible rfl)); (case hi => first | trivial | (simp only [nx_H]; done)))
            | (apply WD.guardF; (case hj => (simp only [go_sem, Nat.reduceEqDiff, Nat.reduceAdd, reduceIte, q0, q1, q2, q3, g4, e0, h21, hwd, b0, b1, b2, hM2, hfill, happ4, g5, hw]; first | done | with_reducible rfl)); (case hi => first | trivial | (simp only [nx_H]; done)))
            | (apply WD.guardU; (case hj => (simp only [go_sem, Nat.reduceEqDiff, Nat.reduceAdd, reduceIte, q0, q1, q2, q3, g4, e0, h21, hwd, b0, b1, b2, hM2, hfill, happ4, g5, hw]; first | done | with_reducible rfl)); (case hi => first | trivial | (simp only [nx_H]; done)))
            | with_reducible exact tf
            | with_reducible exact ft
            | intro _)
        exact fin ((x.f0.size : Int)) _ hs (by (simp only [go_sem, Nat.reduceEqDiff, Nat.reduceAdd, reduceIte, g0]; first | done | with_reducible rfl)) (by (simp only [go_sem, Nat.reduceEqDiff, Nat.reduceAdd, reduceIte, hw]; first | done | with_reducible rfl)) (by (simp only [go_sem, Nat.reduceEqDiff, Nat.reduceAdd, reduceIte, gd]; first | done | with_reducible rfl)) (by (simp only [go_sem, Nat.reduceEqDiff, Nat.reduceAdd, reduceIte]; first | done | with_reducible rfl)) (by simp only [nx_H]; exact hk4) (by simp only [nx_H]; exact ho4)
theorem K35 (hsz : ∀ x ∈ l0, x.f0.size ≤ 9223372036854775807) (hbA : bA < H.size) (hA : H.get bA = some (.cells (l0.flatMap enc55) u ro)) : ∃ H', Keep H H' ∧
    ((∃ out v, lens l0 = some out ∧ K 35 #[.slice (some ⟨bA, 0, some 2⟩) l0.length l0.length] H = some (.ret (.tuple #[v, .bool true]) H') ∧ OutS H H' v out ∧ out.length = l0.length ∧ goodL out) ∨
     (lens l0 = none ∧ K 35 #[.slice (some ⟨bA, 0, some 2⟩) l0.length l0.length] H = some (.ret (.tuple #[.slice none 0 0, .bool false]) H'))) := by
  have hn : ¬ a35.ntmps < (#[.slice (some ⟨bA, 0, some 2⟩) l0.length l0.length] : Array Value).size := by simp [a35]
  have h' := W35 hsz hbA hA
  unfold W at h'
  obtain ⟨n, ex, st, h1, rfl, h2, h3, h4⟩ := h'
  refine ⟨st.H, h3, ?_⟩
  have two : ∀ v w : Value, st.get 2 = v → st.get 3 = w → (∀ c, v ≠ .chan c) → (∀ c, w ≠ .chan c) → resultsO st [.tmp 2, .tmp 3] = some (.tuple #[v, w]) := fun v w e1 e2 n1 n2 => by
    have r1 : resO st (.tmp 2) = some v := by simp only [resO, e1]
    have r2 : resO st (.tmp 3) = some w := by simp only [resO, e2]
    simp only [resultsO, List.mapM_cons, List.mapM_nil, r1, r2, Option.bind_eq_bind, Option.bind_some, Option.pure_def, Option.map_some]
  rcases h4 with ⟨out, v, a1, a2, a3, a4, a5, a6⟩ | ⟨a1, a2, a3⟩
  · refine .inl ⟨out, v, a1, K_call a35_eq hn ?_, a4, a5, a6⟩
    unfold W
    refine ⟨n, .ret, st, h1, leave0 h2 (two _ _ a2 a3 ?_ (by intro c h; cases h)) rfl⟩
    rcases a4 with ⟨rfl, _⟩ | ⟨b, _, _, rfl, _⟩ <;> intro c h <;> cases h
  · refine .inr ⟨a1, K_call a35_eq hn ?_⟩
    unfold W
    exact ⟨n, .ret, st, h1, leave0 h2 (two _ _ a2 a3 (by intro c h; cases h) (by intro c h; cases h)) rfl⟩
end
end Go.Proofs.YtehbekgmemebjaaDoorEv
