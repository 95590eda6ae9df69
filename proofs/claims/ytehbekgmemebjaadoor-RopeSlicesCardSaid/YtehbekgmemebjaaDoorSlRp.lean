import Derived.Test.YtehbekgmemebjaaDoorPvN
import Derived.Test.YtehbekgmemebjaaDoorProg
import Derived.Test.YtehbekgmemebjaaDoorStPure
namespace Go.Proofs.YtehbekgmemebjaaDoorEv
open Go
set_option linter.unusedVariables false
set_option linter.unusedSimpArgs false
set_option maxRecDepth 100000
def TTSlRp : Nat → Option Ty
  | 3 => (some (.int .i64))
  | 55 => (some (.pair .str (.pair (.int .i64) (.pair (.int .i64) (.pair (.int .i64) .unit)))))
  | _ => none
def a43 : AFunc := ⟨17, [(.tmp 2)], (.seq (.ops [⟨(some 2), (.mv (.const (.bool false))), none⟩]) (.seq (.ops [⟨(some 3), (.mv (.tmp 0)), none⟩, ⟨(some 4), (.bin .geq (.tmp 3) (.const (.int .u8 (97)))), none⟩, ⟨(some 5), (.mv (.tmp 4)), none⟩, ⟨(some 6), (.mv (.tmp 0)), (some ((some 5), true))⟩, ⟨(some 7), (.bin .leq (.tmp 6) (.const (.int .u8 (104)))), (some ((some 5), true))⟩, ⟨(some 8), (.pick (.tmp 5) (.tmp 7) (.const (.bool false))), none⟩, ⟨(some 9), (.mv (.tmp 8)), none⟩, ⟨(some 10), (.mv (.tmp 0)), (some ((some 9), false))⟩, ⟨(some 11), (.bin .geq (.tmp 10) (.const (.int .u8 (65)))), (some ((some 9), false))⟩, ⟨(some 12), (.mv (.tmp 11)), (some ((some 9), false))⟩, ⟨(some 13), (.mv (.tmp 0)), (some ((some 12), true))⟩, ⟨(some 14), (.bin .leq (.tmp 13) (.const (.int .u8 (72)))), (some ((some 12), true))⟩, ⟨(some 15), (.pick (.tmp 12) (.tmp 14) (.const (.bool false))), (some ((some 9), false))⟩, ⟨(some 16), (.pick (.tmp 9) (.const (.bool true)) (.tmp 15)), none⟩, ⟨(some 2), (.mv (.tmp 16)), none⟩]) .ret))⟩
theorem a43_eq : compFunc Tryd.prog [0] 43 = some a43 := by kernel_rfl
def PT43 : List (PC KK GG) := []
def PQ43 : List (PP KK GG) := []
def L43 : List Lh := []
def X43 : List Xh := [⟨.r, [(2, .as)], ⟨[.bool], [(2, .v (.a (.pu 0)))], []⟩⟩]
def F43 (k : Nat) : Int × Unit → Option (Bool × Unit) := fun (e : Int × Unit) =>
  if decide (e.fst ≥ (97 : Int)) = true then
    if decide (e.fst ≤ (104 : Int)) = true then some (true, ())
    else if decide (e.fst ≥ (65 : Int)) = true then some (decide (e.fst ≤ (72 : Int)), ()) else some (false, ())
  else if decide (e.fst ≥ (65 : Int)) = true then some (decide (e.fst ≤ (72 : Int)), ()) else some (false, ())
theorem F43_eq (k : Nat) : funT (K := KK) (G := GG) PT43 TTSlRp PQ43 L43 k 400 a43 [((.int .u8))] [(.bool, none)] X43 = some (F43 k) := by kernel_rfl
def pc43 : PC KK GG := ⟨43, [((.int .u8))], [(.bool, none)], F43, fun k H Z e vs h1 h2 h3 r h4 => fun_ok a43_eq (fun a H => xo_none 43 a H (of_decide_eq_true (by kernel_rfl))) GG_keep (of_decide_eq_true (by kernel_rfl)) (F43_eq k) H Z e vs h1 h2 h3 r h4⟩
def a21 : AFunc := ⟨21, [(.tmp 4)], (.seq (.ops [⟨(some 4), (.mv (.const (.bool false))), none⟩]) (.seq (.seq (.ops [⟨(some 5), (.mv (.const (.int .i64 (0)))), none⟩]) (.block 0 (.loop (.seq (.seq (.ops [⟨(some 6), (.mv (.tmp 5)), none⟩, ⟨(some 7), (.mv (.tmp 0)), none⟩, ⟨(some 8), (.lenS (.tmp 7)), none⟩, ⟨(some 9), (.bin .lss (.tmp 6) (.tmp 8)), none⟩]) (.cond (.tmp 9) .skip (.exit 0))) (.seq (.block 1 (.seq (.ops [⟨(some 12), (.mv (.tmp 0)), none⟩, ⟨(some 13), (.mv (.tmp 5)), none⟩, ⟨(some 14), (.ixStr (.tmp 12) (.tmp 13)), none⟩, ⟨(some 15), (.call (.func 43) #[(.tmp 14)]), none⟩, ⟨(some 16), (.un .not (.tmp 15)), none⟩]) (.cond (.tmp 16) (.seq (.ops [⟨(some 4), (.mv (.const (.bool false))), none⟩]) .ret) .skip))) (.ops [⟨(some 10), (.mv (.tmp 5)), none⟩, ⟨(some 11), (.bin .add (.tmp 10) (.const (.int .i64 (1)))), none⟩, ⟨(some 5), (.mv (.tmp 11)), none⟩])))))) (.seq (.ops [⟨(some 17), (.mv (.tmp 0)), none⟩, ⟨(some 18), (.lenS (.tmp 17)), none⟩, ⟨(some 19), (.mv (.tmp 1)), none⟩, ⟨(some 20), (.bin .leq (.tmp 18) (.tmp 19)), none⟩, ⟨(some 4), (.mv (.tmp 20)), none⟩]) .ret)))⟩
theorem a21_eq : compFunc Tryd.prog [0] 21 = some a21 := by kernel_rfl
def PT21 : List (PC KK GG) := [pc43]
def PQ21 : List (PP KK GG) := []
def L21 : List Lh := [⟨0, [(1, .as), (0, .as), (5, .as)], ⟨[(.int .i64), .str, (.int .i64)], [(1, .v (.a (.pu 0))), (0, .v (.a (.pu 1))), (5, .v (.a (.pu 2)))], []⟩, [⟨.r, [(4, .as)], ⟨[.bool], [(4, .v (.a (.pu 0)))], []⟩⟩, ⟨.x 0, [(1, .as), (0, .as)], ⟨[.str, (.int .i64)], [(1, .v (.a (.pu 0))), (0, .v (.a (.pu 1)))], []⟩⟩]⟩]
def X21 : List Xh := [⟨.r, [(4, .as)], ⟨[.bool], [(4, .v (.a (.pu 0)))], []⟩⟩]
def F21 (k : Nat) : ByteArray × Int × Unit → Option (Bool × Unit) := fun (e : ByteArray × Int × Unit) =>
  (iter
        (fun (e : Int × ByteArray × Int × Unit) =>
          if decide (e.fst < (↑e.snd.fst.size : Int)) = true then
            (atB e.snd.fst e.fst).bind fun (x : Int) =>
              (F43 k (x, ())).bind fun (x : Bool × Unit) =>
                if (!x.fst) = true then some (Sum.inr (Sum.inl (false, ())))
                else some (Sum.inl (IntKind.i64.wrap (e.fst + (1 : Int)), e.snd.fst, e.snd.snd.fst, ()))
          else some (Sum.inr (Sum.inr (Sum.inl (e.snd.fst, e.snd.snd.fst, ())))))
        k ((0 : Int), e.fst, e.snd.fst, ())).bind
    (sumE (fun (e : Bool × Unit) => some (e.fst, ()))
      (sumE (fun (e : ByteArray × Int × Unit) => some (decide ((↑e.fst.size : Int) ≤ e.snd.fst), ())) emE))
theorem F21_eq (k : Nat) : funT (K := KK) (G := GG) PT21 TTSlRp PQ21 L21 k 400 a21 [.str, ((.int .i64))] [(.bool, none)] X21 = some (F21 k) := by kernel_rfl
def pc21 : PC KK GG := ⟨21, [.str, ((.int .i64))], [(.bool, none)], F21, fun k H Z e vs h1 h2 h3 r h4 => fun_ok a21_eq (fun a H => xo_none 21 a H (of_decide_eq_true (by kernel_rfl))) GG_keep (of_decide_eq_true (by kernel_rfl)) (F21_eq k) H Z e vs h1 h2 h3 r h4⟩
def a35 : AFunc := ⟨139, [(.tmp 2), (.tmp 3)], (.seq (.ops [⟨(some 2), (.mv (.const (.slice none 0 0))), none⟩, ⟨(some 3), (.mv (.const (.bool false))), none⟩]) (.seq (.seq (.ops [⟨(some 8), (.mv (.tmp 0)), none⟩, ⟨(some 9), (.lenL (.tmp 8)), none⟩, ⟨(some 10), (.bin .gtr (.tmp 9) (.const (.int .i64 (4000)))), none⟩]) (.cond (.tmp 10) (.seq (.ops [⟨(some 2), (.mv (.const (.slice none 0 0))), none⟩, ⟨(some 3), (.mv (.const (.bool false))), none⟩]) .ret) .skip)) (.seq (.ops [⟨(some 4), (.mv (.const (.slice none 0 0))), none⟩]) (.seq (.seq (.ops [⟨(some 5), (.mv (.const (.int .i64 (0)))), none⟩]) (.block 0 (.loop (.seq (.seq (.ops [⟨(some 11), (.mv (.tmp 5)), none⟩, ⟨(some 12), (.mv (.tmp 0)), none⟩, ⟨(some 13), (.lenL (.tmp 12)), none⟩, ⟨(some 14), (.bin .lss (.tmp 11) (.tmp 13)), none⟩]) (.cond (.tmp 14) .skip (.exit 0))) (.seq (.block 1 (.seq (.ops [⟨(some 17), (.mv (.tmp 0)), none⟩, ⟨(some 18), (.mv (.tmp 5)), none⟩, ⟨(some 19), (.ixS 4 (.tmp 17) (.tmp 18)), none⟩, ⟨(some 20), (.loadA 4 (.tmp 19)), none⟩, ⟨(some 6), (.new 55 [(.string (⟨#[]⟩ : ByteArray)), (.int .i64 (0)), (.int .i64 (0)), (.int .i64 (0))]), none⟩, ⟨none, (.store 4 (.tmp 6) (.tmp 20)), none⟩]) (.seq (.ops [⟨(some 7), (.mv (.const (.int .i64 (0)))), none⟩]) (.seq (.block 2 (.seq (.ops [⟨(some 67), (.off (.tmp 6) 0), none⟩, ⟨(some 68), (.load (.tmp 67)), none⟩, ⟨(some 69), (.bin .neq (.tmp 68) (.const (.string (⟨#[]⟩ : ByteArray)))), none⟩, ⟨(some 66), (.mv (.tmp 69)), none⟩]) (.cond (.tmp 66) (.seq (.seq (.ops [⟨(some 70), (.off (.tmp 6) 0), none⟩, ⟨(some 71), (.load (.tmp 70)), none⟩, ⟨(some 72), (.call (.func 21) #[(.tmp 71), (.const (.int .i64 (100)))]), none⟩, ⟨(some 73), (.un .not (.tmp 72)), none⟩, ⟨(some 74), (.mv (.tmp 73)), none⟩, ⟨(some 75), (.off (.tmp 6) 1), (some ((some 74), false))⟩, ⟨(some 76), (.load (.tmp 75)), (some ((some 74), false))⟩, ⟨(some 77), (.bin .neq (.tmp 76) (.const (.int .i64 (0)))), (some ((some 74), false))⟩, ⟨(some 78), (.pick (.tmp 74) (.const (.bool true)) (.tmp 77)), none⟩, ⟨(some 79), (.mv (.tmp 78)), none⟩, ⟨(some 80), (.off (.tmp 6) 2), (some ((some 79), false))⟩, ⟨(some 81), (.load (.tmp 80)), (some ((some 79), false))⟩, ⟨(some 82), (.bin .neq (.tmp 81) (.const (.int .i64 (0)))), (some ((some 79), false))⟩, ⟨(some 83), (.pick (.tmp 79) (.const (.bool true)) (.tmp 82)), none⟩, ⟨(some 84), (.mv (.tmp 83)), none⟩, ⟨(some 85), (.off (.tmp 6) 3), (some ((some 84), false))⟩, ⟨(some 86), (.load (.tmp 85)), (some ((some 84), false))⟩, ⟨(some 87), (.bin .neq (.tmp 86) (.const (.int .i64 (0)))), (some ((some 84), false))⟩, ⟨(some 88), (.pick (.tmp 84) (.const (.bool true)) (.tmp 87)), none⟩]) (.cond (.tmp 88) (.seq (.ops [⟨(some 2), (.mv (.const (.slice none 0 0))), none⟩, ⟨(some 3), (.mv (.const (.bool false))), none⟩]) .ret) .skip)) (.ops [⟨(some 89), (.off (.tmp 6) 0), none⟩, ⟨(some 90), (.load (.tmp 89)), none⟩, ⟨(some 91), (.lenS (.tmp 90)), none⟩, ⟨(some 7), (.mv (.tmp 91)), none⟩])) (.seq (.ops [⟨(some 93), (.off (.tmp 6) 3), none⟩, ⟨(some 94), (.load (.tmp 93)), none⟩, ⟨(some 95), (.bin .neq (.tmp 94) (.const (.int .i64 (0)))), none⟩, ⟨(some 92), (.mv (.tmp 95)), none⟩]) (.cond (.tmp 92) (.seq (.seq (.drawn [⟨⟨(some 96), (.off (.tmp 6) 3), none⟩, ⟨0⟩, false⟩, ⟨⟨(some 97), (.load (.tmp 96)), none⟩, ⟨1⟩, false⟩, ⟨⟨(some 98), (.bin .lss (.tmp 97) (.const (.int .i64 (1)))), none⟩, ⟨3⟩, false⟩, ⟨⟨(some 99), (.mv (.tmp 98)), none⟩, ⟨7⟩, false⟩, ⟨⟨(some 100), (.off (.tmp 6) 1), (some ((some 99), false))⟩, ⟨15⟩, false⟩, ⟨⟨(some 101), (.load (.tmp 100)), (some ((some 99), false))⟩, ⟨31⟩, false⟩, ⟨⟨(some 102), (.bin .lss (.tmp 101) (.const (.int .i64 (0)))), (some ((some 99), false))⟩, ⟨63⟩, false⟩, ⟨⟨(some 103), (.pick (.tmp 99) (.const (.bool true)) (.tmp 102)), none⟩, ⟨127⟩, false⟩, ⟨⟨(some 104), (.mv (.tmp 103)), none⟩, ⟨255⟩, false⟩, ⟨⟨(some 105), (.off (.tmp 6) 1), (some ((some 104), false))⟩, ⟨511⟩, false⟩, ⟨⟨(some 106), (.load (.tmp 105)), (some ((some 104), false))⟩, ⟨1023⟩, false⟩, ⟨⟨(some 107), (.mv (.tmp 5)), (some ((some 104), false))⟩, ⟨511⟩, false⟩, ⟨⟨(some 108), (.bin .geq (.tmp 106) (.tmp 107)), (some ((some 104), false))⟩, ⟨4095⟩, false⟩, ⟨⟨(some 109), (.pick (.tmp 104) (.const (.bool true)) (.tmp 108)), none⟩, ⟨8191⟩, false⟩, ⟨⟨(some 110), (.mv (.tmp 109)), none⟩, ⟨16383⟩, false⟩, ⟨⟨(some 111), (.off (.tmp 6) 2), (some ((some 110), false))⟩, ⟨32767⟩, false⟩, ⟨⟨(some 112), (.load (.tmp 111)), (some ((some 110), false))⟩, ⟨65535⟩, false⟩, ⟨⟨(some 113), (.bin .neq (.tmp 112) (.const (.int .i64 (0)))), (some ((some 110), false))⟩, ⟨131071⟩, false⟩, ⟨⟨(some 114), (.pick (.tmp 110) (.const (.bool true)) (.tmp 113)), none⟩, ⟨262143⟩, false⟩, ⟨⟨(some 115), (.mv (.tmp 114)), none⟩, ⟨524287⟩, false⟩, ⟨⟨(some 116), (.off (.tmp 6) 3), (some ((some 115), false))⟩, ⟨1048575⟩, false⟩, ⟨⟨(some 117), (.load (.tmp 116)), (some ((some 115), false))⟩, ⟨2097151⟩, false⟩, ⟨⟨(some 118), (.mv (.tmp 4)), (some ((some 115), false))⟩, ⟨1048575⟩, false⟩, ⟨⟨(some 119), (.off (.tmp 6) 1), (some ((some 115), false))⟩, ⟨1048575⟩, false⟩, ⟨⟨(some 120), (.load (.tmp 119)), (some ((some 115), false))⟩, ⟨9437183⟩, false⟩, ⟨⟨(some 121), (.ixS 1 (.tmp 118) (.tmp 120)), (some ((some 115), false))⟩, ⟨30408703⟩, false⟩, ⟨⟨(some 122), (.load (.tmp 121)), (some ((some 115), false))⟩, ⟨63963135⟩, false⟩, ⟨⟨(some 123), (.bin .quo (.const (.int .i64 (1152921504606846976))) (.tmp 122)), (some ((some 115), false))⟩, ⟨131071999⟩, false⟩, ⟨⟨(some 124), (.bin .gtr (.tmp 117) (.tmp 123)), (some ((some 115), false))⟩, ⟨268435455⟩, false⟩, ⟨⟨(some 125), (.pick (.tmp 115) (.const (.bool true)) (.tmp 124)), none⟩, ⟨536870911⟩, false⟩]) (.cond (.tmp 125) (.seq (.ops [⟨(some 2), (.mv (.const (.slice none 0 0))), none⟩, ⟨(some 3), (.mv (.const (.bool false))), none⟩]) .ret) .skip)) (.drawn [⟨⟨(some 126), (.off (.tmp 6) 3), none⟩, ⟨0⟩, false⟩, ⟨⟨(some 127), (.load (.tmp 126)), none⟩, ⟨1⟩, false⟩, ⟨⟨(some 128), (.mv (.tmp 4)), none⟩, ⟨0⟩, false⟩, ⟨⟨(some 129), (.off (.tmp 6) 1), none⟩, ⟨0⟩, false⟩, ⟨⟨(some 130), (.load (.tmp 129)), none⟩, ⟨8⟩, false⟩, ⟨⟨(some 131), (.ixS 1 (.tmp 128) (.tmp 130)), none⟩, ⟨28⟩, false⟩, ⟨⟨(some 132), (.load (.tmp 131)), none⟩, ⟨60⟩, false⟩, ⟨⟨(some 133), (.bin .mul (.tmp 127) (.tmp 132)), none⟩, ⟨127⟩, false⟩, ⟨⟨(some 7), (.mv (.tmp 133)), none⟩, ⟨255⟩, false⟩])) (.seq (.seq (.drawn [⟨⟨(some 21), (.off (.tmp 6) 1), none⟩, ⟨0⟩, false⟩, ⟨⟨(some 22), (.load (.tmp 21)), none⟩, ⟨1⟩, false⟩, ⟨⟨(some 23), (.bin .lss (.tmp 22) (.const (.int .i64 (0)))), none⟩, ⟨3⟩, false⟩, ⟨⟨(some 24), (.mv (.tmp 23)), none⟩, ⟨7⟩, false⟩, ⟨⟨(some 25), (.off (.tmp 6) 1), (some ((some 24), false))⟩, ⟨15⟩, false⟩, ⟨⟨(some 26), (.load (.tmp 25)), (some ((some 24), false))⟩, ⟨31⟩, false⟩, ⟨⟨(some 27), (.mv (.tmp 5)), (some ((some 24), false))⟩, ⟨15⟩, false⟩, ⟨⟨(some 28), (.bin .geq (.tmp 26) (.tmp 27)), (some ((some 24), false))⟩, ⟨127⟩, false⟩, ⟨⟨(some 29), (.pick (.tmp 24) (.const (.bool true)) (.tmp 28)), none⟩, ⟨255⟩, false⟩, ⟨⟨(some 30), (.mv (.tmp 29)), none⟩, ⟨511⟩, false⟩, ⟨⟨(some 31), (.off (.tmp 6) 2), (some ((some 30), false))⟩, ⟨1023⟩, false⟩, ⟨⟨(some 32), (.load (.tmp 31)), (some ((some 30), false))⟩, ⟨2047⟩, false⟩, ⟨⟨(some 33), (.bin .lss (.tmp 32) (.const (.int .i64 (0)))), (some ((some 30), false))⟩, ⟨4095⟩, false⟩, ⟨⟨(some 34), (.pick (.tmp 30) (.const (.bool true)) (.tmp 33)), none⟩, ⟨8191⟩, false⟩, ⟨⟨(some 35), (.mv (.tmp 34)), none⟩, ⟨16383⟩, false⟩, ⟨⟨(some 36), (.off (.tmp 6) 2), (some ((some 35), false))⟩, ⟨32767⟩, false⟩, ⟨⟨(some 37), (.load (.tmp 36)), (some ((some 35), false))⟩, ⟨65535⟩, false⟩, ⟨⟨(some 38), (.mv (.tmp 5)), (some ((some 35), false))⟩, ⟨32767⟩, false⟩, ⟨⟨(some 39), (.bin .geq (.tmp 37) (.tmp 38)), (some ((some 35), false))⟩, ⟨262143⟩, false⟩, ⟨⟨(some 40), (.pick (.tmp 35) (.const (.bool true)) (.tmp 39)), none⟩, ⟨524287⟩, false⟩, ⟨⟨(some 41), (.mv (.tmp 40)), none⟩, ⟨1048575⟩, false⟩, ⟨⟨(some 42), (.mv (.tmp 4)), (some ((some 41), false))⟩, ⟨2097151⟩, false⟩, ⟨⟨(some 43), (.off (.tmp 6) 1), (some ((some 41), false))⟩, ⟨2097151⟩, false⟩, ⟨⟨(some 44), (.load (.tmp 43)), (some ((some 41), false))⟩, ⟨6291455⟩, false⟩, ⟨⟨(some 45), (.ixS 1 (.tmp 42) (.tmp 44)), (some ((some 41), false))⟩, ⟨16777215⟩, false⟩, ⟨⟨(some 46), (.load (.tmp 45)), (some ((some 41), false))⟩, ⟨33554431⟩, false⟩, ⟨⟨(some 47), (.mv (.tmp 4)), (some ((some 41), false))⟩, ⟨2097151⟩, false⟩, ⟨⟨(some 48), (.off (.tmp 6) 2), (some ((some 41), false))⟩, ⟨2097151⟩, false⟩, ⟨⟨(some 49), (.load (.tmp 48)), (some ((some 41), false))⟩, ⟨136314879⟩, false⟩, ⟨⟨(some 50), (.ixS 1 (.tmp 47) (.tmp 49)), (some ((some 41), false))⟩, ⟨471859199⟩, false⟩, ⟨⟨(some 51), (.load (.tmp 50)), (some ((some 41), false))⟩, ⟨1008730111⟩, false⟩, ⟨⟨(some 52), (.bin .sub (.const (.int .i64 (1152921504606846976))) (.tmp 51)), (some ((some 41), false))⟩, ⟨2082471935⟩, false⟩, ⟨⟨(some 53), (.bin .gtr (.tmp 46) (.tmp 52)), (some ((some 41), false))⟩, ⟨4294967295⟩, false⟩, ⟨⟨(some 54), (.pick (.tmp 41) (.const (.bool true)) (.tmp 53)), none⟩, ⟨8589934591⟩, false⟩]) (.cond (.tmp 54) (.seq (.ops [⟨(some 2), (.mv (.const (.slice none 0 0))), none⟩, ⟨(some 3), (.mv (.const (.bool false))), none⟩]) .ret) .skip)) (.drawn [⟨⟨(some 55), (.mv (.tmp 4)), none⟩, ⟨0⟩, false⟩, ⟨⟨(some 56), (.off (.tmp 6) 1), none⟩, ⟨0⟩, false⟩, ⟨⟨(some 57), (.load (.tmp 56)), none⟩, ⟨2⟩, false⟩, ⟨⟨(some 58), (.ixS 1 (.tmp 55) (.tmp 57)), none⟩, ⟨7⟩, false⟩, ⟨⟨(some 59), (.load (.tmp 58)), none⟩, ⟨15⟩, false⟩, ⟨⟨(some 60), (.mv (.tmp 4)), none⟩, ⟨0⟩, false⟩, ⟨⟨(some 61), (.off (.tmp 6) 2), none⟩, ⟨0⟩, false⟩, ⟨⟨(some 62), (.load (.tmp 61)), none⟩, ⟨64⟩, false⟩, ⟨⟨(some 63), (.ixS 1 (.tmp 60) (.tmp 62)), none⟩, ⟨224⟩, false⟩, ⟨⟨(some 64), (.load (.tmp 63)), none⟩, ⟨480⟩, false⟩, ⟨⟨(some 65), (.bin .add (.tmp 59) (.tmp 64)), none⟩, ⟨1023⟩, false⟩, ⟨⟨(some 7), (.mv (.tmp 65)), none⟩, ⟨2047⟩, false⟩]))))))) (.ops [⟨(some 134), (.mv (.tmp 4)), none⟩, ⟨(some 135), (.mv (.tmp 7)), none⟩, ⟨(some 136), (.bslice 3 #[(.int .i64 (0))] 1 1 #[(0, (.tmp 135))]), none⟩, ⟨(some 137), (.append 3 1 8 (.tmp 134) (.tmp 136)), none⟩, ⟨(some 4), (.mv (.tmp 137)), none⟩]))))) (.ops [⟨(some 15), (.mv (.tmp 5)), none⟩, ⟨(some 16), (.bin .add (.tmp 15) (.const (.int .i64 (1)))), none⟩, ⟨(some 5), (.mv (.tmp 16)), none⟩])))))) (.seq (.ops [⟨(some 138), (.mv (.tmp 4)), none⟩, ⟨(some 2), (.mv (.tmp 138)), none⟩, ⟨(some 3), (.mv (.const (.bool true))), none⟩]) .ret)))))⟩
theorem a35_eq : compFunc Tryd.prog [0] 35 = some a35 := by kernel_rfl
def PT35 : List (PC KK GG) := [pc21]
def PQ35 : List (PP KK GG) := []
def L35 : List Lh := [⟨1613440, [(0, .as), (5, .as), (4, .as), (6, .as), (88, .as)], ⟨[.bool, (.int .i64), (.int .i64), (.int .i64), .str, (.sl (.int .i64)), (.int .i64), (.sl (.pair .str (.pair (.int .i64) (.pair (.int .i64) (.pair (.int .i64) .unit)))))], [(0, .v (.a (.pu 0))), (5, .v (.a (.pu 1))), (4, .v (.a (.hd 0))), (6, .v (.a (.bp 1 0))), (88, .v (.a (.pu 7)))], [.sl (.int .i64) 3 2, .bx [(.pu 3), (.pu 4), (.pu 5), (.pu 6)]]⟩, []⟩, ⟨1783615, [(0, .as), (5, .as), (4, .as), (6, .as), (125, .as)], ⟨[.bool, (.int .i64), (.int .i64), (.int .i64), .str, (.sl (.int .i64)), (.int .i64), (.sl (.pair .str (.pair (.int .i64) (.pair (.int .i64) (.pair (.int .i64) .unit)))))], [(0, .v (.a (.pu 0))), (5, .v (.a (.pu 1))), (4, .v (.a (.hd 0))), (6, .v (.a (.bp 1 0))), (125, .v (.a (.pu 7)))], [.sl (.int .i64) 3 2, .bx [(.pu 3), (.pu 4), (.pu 5), (.pu 6)]]⟩, []⟩, ⟨1213819, [(0, .as), (5, .as), (4, .as), (6, .as), (54, .as)], ⟨[.bool, (.int .i64), (.int .i64), (.int .i64), .str, (.sl (.int .i64)), (.int .i64), (.sl (.pair .str (.pair (.int .i64) (.pair (.int .i64) (.pair (.int .i64) .unit)))))], [(0, .v (.a (.pu 0))), (5, .v (.a (.pu 1))), (4, .v (.a (.hd 0))), (6, .v (.a (.bp 1 0))), (54, .v (.a (.pu 7)))], [.sl (.int .i64) 3 2, .bx [(.pu 3), (.pu 4), (.pu 5), (.pu 6)]]⟩, []⟩, ⟨1265921, [(0, .as), (5, .as), (7, .as), (4, .as)], ⟨[(.sl (.int .i64)), (.int .i64), (.int .i64), (.sl (.pair .str (.pair (.int .i64) (.pair (.int .i64) (.pair (.int .i64) .unit)))))], [(0, .v (.a (.pu 0))), (5, .v (.a (.pu 1))), (7, .v (.a (.pu 2))), (4, .v (.a (.hd 0)))], [.sl (.int .i64) 3 3]⟩, [⟨.r, [(2, .as), (3, .as)], ⟨[.bool], [(2, .v (.a .nil)), (3, .v (.a (.pu 0)))], []⟩⟩]⟩, ⟨0, [(4, .own (.int .i64) 3), (0, .shr (.pair .str (.pair (.int .i64) (.pair (.int .i64) (.pair (.int .i64) .unit))))), (5, .as)], ⟨[(.int .i64), (.sl (.pair .str (.pair (.int .i64) (.pair (.int .i64) (.pair (.int .i64) .unit))))), (.sl (.int .i64))], [(4, .v (.a (.hd 0))), (0, .v (.a (.pu 1))), (5, .v (.a (.pu 2)))], [.sl (.int .i64) 3 0]⟩, [⟨.r, [(2, .as), (3, .as)], ⟨[.bool], [(2, .v (.a .nil)), (3, .v (.a (.pu 0)))], []⟩⟩, ⟨.x 0, [(4, .as)], ⟨[(.sl (.int .i64))], [(4, .v (.a (.hd 0)))], [.sl (.int .i64) 3 0]⟩⟩]⟩]
def X35 : List Xh := [⟨.r, [(2, .own (.int .i64) 3), (3, .as)], ⟨[.bool, (.sl (.int .i64))], [(2, .v (.a (.hd 0))), (3, .v (.a (.pu 1)))], [.sl (.int .i64) 3 0]⟩⟩]
def F35 (k : Nat) : List (ByteArray × Int × Int × Int × Unit) × Unit → Option (List Int × Bool × Unit) := fun (e : List (ByteArray × Int × Int × Int × Unit) × Unit) =>
  if decide ((↑e.fst.length : Int) > (4000 : Int)) = true then some ([], false, ())
  else
    (iter
          (fun (e : Int × List (ByteArray × Int × Int × Int × Unit) × List Int × Unit) =>
            if decide (e.fst < (↑e.snd.fst.length : Int)) = true then
              (atL e.snd.fst e.fst).bind fun (x : ByteArray × Int × Int × Int × Unit) =>
                (if (!x.fst.toList == (⟨#[]⟩ : ByteArray).toList) = true then
                      ((F21 k (x.fst, (100 : Int), ())).bind fun (x_1 : Bool × Unit) =>
                            if (!x_1.fst) = true then
                              some
                                (Sum.inl
                                  (true, x.snd.snd.snd.fst, x.snd.snd.fst, x.snd.fst, x.fst, e.snd.snd.fst, e.fst,
                                    e.snd.fst, ()))
                            else
                              if (x.snd.fst != (0 : Int)) = true then
                                some
                                  (Sum.inl
                                    (true, x.snd.snd.snd.fst, x.snd.snd.fst, x.snd.fst, x.fst, e.snd.snd.fst, e.fst,
                                      e.snd.fst, ()))
                              else
                                if (x.snd.snd.fst != (0 : Int)) = true then
                                  some
                                    (Sum.inl
                                      (true, x.snd.snd.snd.fst, x.snd.snd.fst, x.snd.fst, x.fst, e.snd.snd.fst, e.fst,
                                        e.snd.fst, ()))
                                else
                                  some
                                    (Sum.inl
                                      (x.snd.snd.snd.fst != (0 : Int), x.snd.snd.snd.fst, x.snd.snd.fst, x.snd.fst,
                                        x.fst, e.snd.snd.fst, e.fst, e.snd.fst, ()))).bind
                        (sumE
                          (fun
                              (e :
                                Bool ×
                                  Int ×
                                    Int ×
                                      Int ×
                                        ByteArray ×
                                          List Int × Int × List (ByteArray × Int × Int × Int × Unit) × Unit) =>
                            if e.fst = true then some (Sum.inr (Sum.inl (false, ())))
                            else
                              some
                                (Sum.inl
                                  (e.snd.snd.snd.snd.snd.fst, (↑e.snd.snd.snd.snd.fst.size : Int),
                                    e.snd.snd.snd.snd.snd.snd.fst, e.snd.snd.snd.snd.snd.snd.snd.fst, ())))
                          emE)
                    else
                      if (x.snd.snd.snd.fst != (0 : Int)) = true then
                        (if decide (x.snd.snd.snd.fst < (1 : Int)) = true then
                              some
                                (Sum.inl
                                  (true, x.snd.snd.snd.fst, x.snd.snd.fst, x.snd.fst, x.fst, e.snd.snd.fst, e.fst,
                                    e.snd.fst, ()))
                            else
                              if decide (x.snd.fst < (0 : Int)) = true then
                                some
                                  (Sum.inl
                                    (true, x.snd.snd.snd.fst, x.snd.snd.fst, x.snd.fst, x.fst, e.snd.snd.fst, e.fst,
                                      e.snd.fst, ()))
                              else
                                if decide (x.snd.fst ≥ e.fst) = true then
                                  some
                                    (Sum.inl
                                      (true, x.snd.snd.snd.fst, x.snd.snd.fst, x.snd.fst, x.fst, e.snd.snd.fst, e.fst,
                                        e.snd.fst, ()))
                                else
                                  if (x.snd.snd.fst != (0 : Int)) = true then
                                    some
                                      (Sum.inl
                                        (true, x.snd.snd.snd.fst, x.snd.snd.fst, x.snd.fst, x.fst, e.snd.snd.fst, e.fst,
                                          e.snd.fst, ()))
                                  else
                                    if (0 : Int) ≤ x.snd.fst ∧ x.snd.fst < (↑e.snd.snd.fst.length : Int) then
                                      ((atL e.snd.snd.fst x.snd.fst).bind fun (y : Int) => some y).bind
                                        fun (x_1 : Int) =>
                                        (if x_1 = (0 : Int) then none
                                            else
                                              some (IntKind.i64.wrap (Int.tdiv (1152921504606846976 : Int) x_1))).bind
                                          fun (x_2 : Int) =>
                                          some
                                            (Sum.inl
                                              (decide (x.snd.snd.snd.fst > x_2), x.snd.snd.snd.fst, x.snd.snd.fst,
                                                x.snd.fst, x.fst, e.snd.snd.fst, e.fst, e.snd.fst, ()))
                                    else none).bind
                          (sumE
                            (fun
                                (e :
                                  Bool ×
                                    Int ×
                                      Int ×
                                        Int ×
                                          ByteArray ×
                                            List Int × Int × List (ByteArray × Int × Int × Int × Unit) × Unit) =>
                              if e.fst = true then some (Sum.inr (Sum.inl (false, ())))
                              else
                                if
                                    (0 : Int) ≤ e.snd.snd.snd.fst ∧
                                      e.snd.snd.snd.fst < (↑e.snd.snd.snd.snd.snd.fst.length : Int) then
                                  ((atL e.snd.snd.snd.snd.snd.fst e.snd.snd.snd.fst).bind fun (y : Int) => some y).bind
                                    fun (x : Int) =>
                                    some
                                      (Sum.inl
                                        (e.snd.snd.snd.snd.snd.fst, IntKind.i64.wrap (e.snd.fst * x),
                                          e.snd.snd.snd.snd.snd.snd.fst, e.snd.snd.snd.snd.snd.snd.snd.fst, ()))
                                else none)
                            emE)
                      else
                        (if decide (x.snd.fst < (0 : Int)) = true then
                              some
                                (Sum.inl
                                  (true, x.snd.snd.snd.fst, x.snd.snd.fst, x.snd.fst, x.fst, e.snd.snd.fst, e.fst,
                                    e.snd.fst, ()))
                            else
                              if decide (x.snd.fst ≥ e.fst) = true then
                                some
                                  (Sum.inl
                                    (true, x.snd.snd.snd.fst, x.snd.snd.fst, x.snd.fst, x.fst, e.snd.snd.fst, e.fst,
                                      e.snd.fst, ()))
                              else
                                if decide (x.snd.snd.fst < (0 : Int)) = true then
                                  some
                                    (Sum.inl
                                      (true, x.snd.snd.snd.fst, x.snd.snd.fst, x.snd.fst, x.fst, e.snd.snd.fst, e.fst,
                                        e.snd.fst, ()))
                                else
                                  if decide (x.snd.snd.fst ≥ e.fst) = true then
                                    some
                                      (Sum.inl
                                        (true, x.snd.snd.snd.fst, x.snd.snd.fst, x.snd.fst, x.fst, e.snd.snd.fst, e.fst,
                                          e.snd.fst, ()))
                                  else
                                    if (0 : Int) ≤ x.snd.fst ∧ x.snd.fst < (↑e.snd.snd.fst.length : Int) then
                                      ((atL e.snd.snd.fst x.snd.fst).bind fun (y : Int) => some y).bind
                                        fun (x_1 : Int) =>
                                        if
                                            (0 : Int) ≤ x.snd.snd.fst ∧
                                              x.snd.snd.fst < (↑e.snd.snd.fst.length : Int) then
                                          ((atL e.snd.snd.fst x.snd.snd.fst).bind fun (y : Int) => some y).bind
                                            fun (x_2 : Int) =>
                                            some
                                              (Sum.inl
                                                (decide (x_1 > IntKind.i64.wrap ((1152921504606846976 : Int) - x_2)),
                                                  x.snd.snd.snd.fst, x.snd.snd.fst, x.snd.fst, x.fst, e.snd.snd.fst,
                                                  e.fst, e.snd.fst, ()))
                                        else none
                                    else none).bind
                          (sumE
                            (fun
                                (e :
                                  Bool ×
                                    Int ×
                                      Int ×
                                        Int ×
                                          ByteArray ×
                                            List Int × Int × List (ByteArray × Int × Int × Int × Unit) × Unit) =>
                              if e.fst = true then some (Sum.inr (Sum.inl (false, ())))
                              else
                                if
                                    (0 : Int) ≤ e.snd.snd.snd.fst ∧
                                      e.snd.snd.snd.fst < (↑e.snd.snd.snd.snd.snd.fst.length : Int) then
                                  ((atL e.snd.snd.snd.snd.snd.fst e.snd.snd.snd.fst).bind fun (y : Int) => some y).bind
                                    fun (x : Int) =>
                                    if
                                        (0 : Int) ≤ e.snd.snd.fst ∧
                                          e.snd.snd.fst < (↑e.snd.snd.snd.snd.snd.fst.length : Int) then
                                      ((atL e.snd.snd.snd.snd.snd.fst e.snd.snd.fst).bind fun (y : Int) => some y).bind
                                        fun (x_1 : Int) =>
                                        some
                                          (Sum.inl
                                            (e.snd.snd.snd.snd.snd.fst, IntKind.i64.wrap (x + x_1),
                                              e.snd.snd.snd.snd.snd.snd.fst, e.snd.snd.snd.snd.snd.snd.snd.fst, ()))
                                    else none
                                else none)
                            emE)).bind
                  (sumE
                    (fun (e : List Int × Int × Int × List (ByteArray × Int × Int × Int × Unit) × Unit) =>
                      if
                          bigB (e.fst.length + ((List.replicate (1 : Nat) (0 : Int)).set (0 : Nat) e.snd.fst).length)
                              (8 : Nat) =
                            true then
                        none
                      else
                        some
                          (Sum.inl
                            (IntKind.i64.wrap (e.snd.snd.fst + (1 : Int)), e.snd.snd.snd.fst,
                              e.fst ++ (List.replicate (1 : Nat) (0 : Int)).set (0 : Nat) e.snd.fst, ())))
                    (sumE (fun (e : Bool × Unit) => some (Sum.inr (Sum.inl (e.fst, ())))) emE))
            else some (Sum.inr (Sum.inr (Sum.inl (e.snd.snd.fst, ())))))
          k ((0 : Int), e.fst, [], ())).bind
      (sumE (fun (e : Bool × Unit) => some ([], e.fst, ()))
        (sumE (fun (e : List Int × Unit) => some (e.fst, true, ())) emE))
theorem F35_eq (k : Nat) : funT (K := KK) (G := GG) PT35 TTSlRp PQ35 L35 k 400 a35 [((.sl (.pair .str (.pair (.int .i64) (.pair (.int .i64) (.pair (.int .i64) .unit))))))] [((.sl (.int .i64)), some 3), (.bool, none)] X35 = some (F35 k) := by kernel_rfl
def pc35 : PC KK GG := ⟨35, [((.sl (.pair .str (.pair (.int .i64) (.pair (.int .i64) (.pair (.int .i64) .unit))))))], [((.sl (.int .i64)), some 3), (.bool, none)], F35, fun k H Z e vs h1 h2 h3 r h4 => fun_ok a35_eq (fun a H => xo_none 35 a H (of_decide_eq_true (by kernel_rfl))) GG_keep (of_decide_eq_true (by kernel_rfl)) (F35_eq k) H Z e vs h1 h2 h3 r h4⟩
def a37 : AFunc := ⟨61, [(.tmp 8)], (.seq (.ops [⟨(some 8), (.mv (.const (.int .u8 (0)))), none⟩]) (.seq (.ops [⟨(some 10), (.mv (.tmp 0)), none⟩, ⟨(some 11), (.mv (.tmp 2)), none⟩, ⟨(some 12), (.ixS 4 (.tmp 10) (.tmp 11)), none⟩, ⟨(some 13), (.loadA 4 (.tmp 12)), none⟩, ⟨(some 9), (.new 55 [(.string (⟨#[]⟩ : ByteArray)), (.int .i64 (0)), (.int .i64 (0)), (.int .i64 (0))]), none⟩, ⟨none, (.store 4 (.tmp 9) (.tmp 13)), none⟩]) (.seq (.seq (.ops [⟨(some 14), (.off (.tmp 9) 0), none⟩, ⟨(some 15), (.load (.tmp 14)), none⟩, ⟨(some 16), (.bin .neq (.tmp 15) (.const (.string (⟨#[]⟩ : ByteArray)))), none⟩]) (.cond (.tmp 16) (.seq (.ops [⟨(some 17), (.off (.tmp 9) 0), none⟩, ⟨(some 18), (.load (.tmp 17)), none⟩, ⟨(some 19), (.mv (.tmp 3)), none⟩, ⟨(some 20), (.ixStr (.tmp 18) (.tmp 19)), none⟩, ⟨(some 8), (.mv (.tmp 20)), none⟩]) .ret) .skip)) (.seq (.seq (.ops [⟨(some 21), (.off (.tmp 9) 3), none⟩, ⟨(some 22), (.load (.tmp 21)), none⟩, ⟨(some 23), (.bin .gtr (.tmp 22) (.const (.int .i64 (0)))), none⟩]) (.cond (.tmp 23) (.seq (.drawn [⟨⟨(some 24), (.mv (.tmp 0)), none⟩, ⟨0⟩, false⟩, ⟨⟨(some 25), (.mv (.tmp 1)), none⟩, ⟨0⟩, false⟩, ⟨⟨(some 26), (.off (.tmp 9) 1), none⟩, ⟨0⟩, false⟩, ⟨⟨(some 27), (.load (.tmp 26)), none⟩, ⟨4⟩, false⟩, ⟨⟨(some 28), (.mv (.tmp 3)), none⟩, ⟨0⟩, false⟩, ⟨⟨(some 29), (.mv (.tmp 1)), none⟩, ⟨0⟩, false⟩, ⟨⟨(some 30), (.off (.tmp 9) 1), none⟩, ⟨0⟩, false⟩, ⟨⟨(some 31), (.load (.tmp 30)), none⟩, ⟨64⟩, false⟩, ⟨⟨(some 32), (.ixS 1 (.tmp 29) (.tmp 31)), none⟩, ⟨224⟩, false⟩, ⟨⟨(some 33), (.load (.tmp 32)), none⟩, ⟨480⟩, false⟩, ⟨⟨(some 34), (.bin .rem (.tmp 28) (.tmp 33)), none⟩, ⟨1008⟩, false⟩, ⟨⟨(some 35), (.call (.func 37) #[(.tmp 24), (.tmp 25), (.tmp 27), (.tmp 34)]), none⟩, ⟨2047⟩, true⟩, ⟨⟨(some 8), (.mv (.tmp 35)), none⟩, ⟨4095⟩, false⟩]) .ret) .skip)) (.seq (.seq (.ops [⟨(some 36), (.mv (.tmp 3)), none⟩, ⟨(some 37), (.mv (.tmp 1)), none⟩, ⟨(some 38), (.off (.tmp 9) 1), none⟩, ⟨(some 39), (.load (.tmp 38)), none⟩, ⟨(some 40), (.ixS 1 (.tmp 37) (.tmp 39)), none⟩, ⟨(some 41), (.load (.tmp 40)), none⟩, ⟨(some 42), (.bin .lss (.tmp 36) (.tmp 41)), none⟩]) (.cond (.tmp 42) (.seq (.ops [⟨(some 43), (.mv (.tmp 0)), none⟩, ⟨(some 44), (.mv (.tmp 1)), none⟩, ⟨(some 45), (.off (.tmp 9) 1), none⟩, ⟨(some 46), (.load (.tmp 45)), none⟩, ⟨(some 47), (.mv (.tmp 3)), none⟩, ⟨(some 48), (.call (.func 37) #[(.tmp 43), (.tmp 44), (.tmp 46), (.tmp 47)]), none⟩, ⟨(some 8), (.mv (.tmp 48)), none⟩]) .ret) .skip)) (.seq (.drawn [⟨⟨(some 49), (.mv (.tmp 0)), none⟩, ⟨0⟩, false⟩, ⟨⟨(some 50), (.mv (.tmp 1)), none⟩, ⟨0⟩, false⟩, ⟨⟨(some 51), (.off (.tmp 9) 2), none⟩, ⟨0⟩, false⟩, ⟨⟨(some 52), (.load (.tmp 51)), none⟩, ⟨4⟩, false⟩, ⟨⟨(some 53), (.mv (.tmp 3)), none⟩, ⟨0⟩, false⟩, ⟨⟨(some 54), (.mv (.tmp 1)), none⟩, ⟨0⟩, false⟩, ⟨⟨(some 55), (.off (.tmp 9) 1), none⟩, ⟨0⟩, false⟩, ⟨⟨(some 56), (.load (.tmp 55)), none⟩, ⟨64⟩, false⟩, ⟨⟨(some 57), (.ixS 1 (.tmp 54) (.tmp 56)), none⟩, ⟨224⟩, false⟩, ⟨⟨(some 58), (.load (.tmp 57)), none⟩, ⟨480⟩, false⟩, ⟨⟨(some 59), (.bin .sub (.tmp 53) (.tmp 58)), none⟩, ⟨1008⟩, false⟩, ⟨⟨(some 60), (.call (.func 37) #[(.tmp 49), (.tmp 50), (.tmp 52), (.tmp 59)]), none⟩, ⟨2047⟩, true⟩, ⟨⟨(some 8), (.mv (.tmp 60)), none⟩, ⟨4095⟩, false⟩]) .ret))))))⟩
theorem a37_eq : compFunc Tryd.prog [0] 37 = some a37 := by kernel_rfl
def PT37 : List (PC KK GG) := []
def PQ37 : List (PP KK GG) := []
def L37 : List Lh := []
def X37 : List Xh := [⟨.r, [(8, .as)], ⟨[(.int .u8)], [(8, .v (.a (.pu 0)))], []⟩⟩]
def S37 (g : List (ByteArray × Int × Int × Int × Unit) × List Int × Int × Int × Unit → Option (Int × Unit)) (k : Nat) : List (ByteArray × Int × Int × Int × Unit) × List Int × Int × Int × Unit → Option (Int × Unit) := fun (e : List (ByteArray × Int × Int × Int × Unit) × List Int × Int × Int × Unit) =>
  (atL e.fst e.snd.snd.fst).bind fun (x : ByteArray × Int × Int × Int × Unit) =>
    if (!x.fst.toList == (⟨#[]⟩ : ByteArray).toList) = true then
      (atB x.fst e.snd.snd.snd.fst).bind fun (x : Int) => some (x, ())
    else
      if decide (x.snd.snd.snd.fst > (0 : Int)) = true then
        (atL e.snd.fst x.snd.fst).bind fun (x_1 : Int) =>
          (if x_1 = (0 : Int) then none else some (e.snd.snd.snd.fst.tmod x_1)).bind fun (x_2 : Int) =>
            (g (e.fst, e.snd.fst, x.snd.fst, x_2, ())).bind fun (x : Int × Unit) => some (x.fst, ())
      else
        (atL e.snd.fst x.snd.fst).bind fun (x_1 : Int) =>
          if decide (e.snd.snd.snd.fst < x_1) = true then
            (g (e.fst, e.snd.fst, x.snd.fst, e.snd.snd.snd.fst, ())).bind fun (x : Int × Unit) => some (x.fst, ())
          else
            (atL e.snd.fst x.snd.fst).bind fun (x_2 : Int) =>
              (g (e.fst, e.snd.fst, x.snd.snd.fst, IntKind.i64.wrap (e.snd.snd.snd.fst - x_2), ())).bind
                fun (x : Int × Unit) => some (x.fst, ())
theorem S37_eq (g : Pe [((.sl (.pair .str (.pair (.int .i64) (.pair (.int .i64) (.pair (.int .i64) .unit)))))), ((.sl (.int .i64))), ((.int .i64)), ((.int .i64))] → Option (Pe (tys [((.int .u8), none)]))) (hok : PCok KK GG 37 [((.sl (.pair .str (.pair (.int .i64) (.pair (.int .i64) (.pair (.int .i64) .unit)))))), ((.sl (.int .i64))), ((.int .i64)), ((.int .i64))] [((.int .u8), none)] fun _ => g) (k : Nat) : funT (K := KK) (G := GG) (⟨37, [((.sl (.pair .str (.pair (.int .i64) (.pair (.int .i64) (.pair (.int .i64) .unit)))))), ((.sl (.int .i64))), ((.int .i64)), ((.int .i64))], [((.int .u8), none)], fun _ => g, hok⟩ :: PT37) TTSlRp PQ37 L37 k 400 a37 [((.sl (.pair .str (.pair (.int .i64) (.pair (.int .i64) (.pair (.int .i64) .unit)))))), ((.sl (.int .i64))), ((.int .i64)), ((.int .i64))] [((.int .u8), none)] X37 = some (S37 g k) := by kernel_rfl
def F37 : Nat → List (ByteArray × Int × Int × Int × Unit) × List Int × Int × Int × Unit → Option (Int × Unit)
  | 0, _ => none
  | k + 1, e => S37 (F37 k) k e
def pc37 : PC KK GG := ⟨37, [((.sl (.pair .str (.pair (.int .i64) (.pair (.int .i64) (.pair (.int .i64) .unit)))))), ((.sl (.int .i64))), ((.int .i64)), ((.int .i64))], [((.int .u8), none)], F37, rec_ok a37_eq (fun a H => xo_none 37 a H (of_decide_eq_true (by kernel_rfl))) GG_keep (of_decide_eq_true (by kernel_rfl)) (fun _ => rfl) (fun _ _ => rfl) S37_eq⟩
def a12 : AFunc := ⟨22, [(.tmp 2), (.tmp 3)], (.seq (.ops [⟨(some 2), (.mv (.const (.int .i64 (0)))), none⟩, ⟨(some 3), (.mv (.const (.int .i64 (0)))), none⟩]) (.seq (.ops [⟨(some 7), (.mv (.tmp 0)), none⟩, ⟨(some 8), (.call (.func 35) #[(.tmp 7)]), none⟩, ⟨(some 6), (.mv (.tmp 8)), none⟩, ⟨(some 9), (.extract (.tmp 6) 0), none⟩, ⟨(some 10), (.extract (.tmp 6) 1), none⟩, ⟨(some 4), (.mv (.tmp 9)), none⟩, ⟨(some 5), (.mv (.tmp 10)), none⟩]) (.seq (.seq (.ops [⟨(some 11), (.mv (.tmp 5)), none⟩, ⟨(some 12), (.un .not (.tmp 11)), none⟩]) (.cond (.tmp 12) (.seq (.ops [⟨(some 2), (.mv (.const (.int .i64 (0)))), none⟩, ⟨(some 3), (.mv (.const (.int .i64 (20)))), none⟩]) .ret) .skip)) (.seq (.seq (.ops [⟨(some 13), (.mv (.tmp 4)), none⟩, ⟨(some 14), (.lenL (.tmp 13)), none⟩, ⟨(some 15), (.bin .eql (.tmp 14) (.const (.int .i64 (0)))), none⟩]) (.cond (.tmp 15) (.seq (.ops [⟨(some 2), (.mv (.const (.int .i64 (0)))), none⟩, ⟨(some 3), (.mv (.const (.int .i64 (0)))), none⟩]) .ret) .skip)) (.seq (.ops [⟨(some 16), (.mv (.tmp 4)), none⟩, ⟨(some 17), (.mv (.tmp 4)), none⟩, ⟨(some 18), (.lenL (.tmp 17)), none⟩, ⟨(some 19), (.bin .sub (.tmp 18) (.const (.int .i64 (1)))), none⟩, ⟨(some 20), (.ixS 1 (.tmp 16) (.tmp 19)), none⟩, ⟨(some 21), (.load (.tmp 20)), none⟩, ⟨(some 2), (.mv (.tmp 21)), none⟩, ⟨(some 3), (.mv (.const (.int .i64 (0)))), none⟩]) .ret)))))⟩
theorem a12_eq : compFunc Tryd.prog [0] 12 = some a12 := by kernel_rfl
def PT12 : List (PC KK GG) := [pc35]
def PQ12 : List (PP KK GG) := []
def L12 : List Lh := []
def X12 : List Xh := [⟨.r, [(2, .as), (3, .as)], ⟨[(.int .i64), (.int .i64)], [(2, .v (.a (.pu 0))), (3, .v (.a (.pu 1)))], []⟩⟩]
def F12 (k : Nat) : List (ByteArray × Int × Int × Int × Unit) × Unit → Option (Int × Int × Unit) := fun (e : List (ByteArray × Int × Int × Int × Unit) × Unit) =>
  (F35 k (e.fst, ())).bind fun (x : List Int × Bool × Unit) =>
    if (!x.snd.fst) = true then some ((0 : Int), (20 : Int), ())
    else
      if ((↑x.fst.length : Int) == (0 : Int)) = true then some ((0 : Int), (0 : Int), ())
      else
        if
            (0 : Int) ≤ IntKind.i64.wrap ((↑x.fst.length : Int) - (1 : Int)) ∧
              IntKind.i64.wrap ((↑x.fst.length : Int) - (1 : Int)) < (↑x.fst.length : Int) then
          ((atL x.fst (IntKind.i64.wrap ((↑x.fst.length : Int) - (1 : Int)))).bind fun (y : Int) => some y).bind
            fun (x : Int) => some (x, (0 : Int), ())
        else none
theorem F12_eq (k : Nat) : funT (K := KK) (G := GG) PT12 TTSlRp PQ12 L12 k 400 a12 [((.sl (.pair .str (.pair (.int .i64) (.pair (.int .i64) (.pair (.int .i64) .unit))))))] [((.int .i64), none), ((.int .i64), none)] X12 = some (F12 k) := by kernel_rfl
def pc12 : PC KK GG := ⟨12, [((.sl (.pair .str (.pair (.int .i64) (.pair (.int .i64) (.pair (.int .i64) .unit))))))], [((.int .i64), none), ((.int .i64), none)], F12, fun k H Z e vs h1 h2 h3 r h4 => fun_ok a12_eq (fun a H => xo_none 12 a H (of_decide_eq_true (by kernel_rfl))) GG_keep (of_decide_eq_true (by kernel_rfl)) (F12_eq k) H Z e vs h1 h2 h3 r h4⟩
def a14 : AFunc := ⟨37, [(.tmp 4), (.tmp 5)], (.seq (.ops [⟨(some 4), (.mv (.const (.int .u8 (0)))), none⟩, ⟨(some 5), (.mv (.const (.int .i64 (0)))), none⟩]) (.seq (.ops [⟨(some 11), (.mv (.tmp 0)), none⟩, ⟨(some 12), (.call (.func 12) #[(.tmp 11)]), none⟩, ⟨(some 10), (.mv (.tmp 12)), none⟩, ⟨(some 13), (.extract (.tmp 10) 0), none⟩, ⟨(some 14), (.extract (.tmp 10) 1), none⟩, ⟨(some 6), (.mv (.tmp 13)), none⟩, ⟨(some 7), (.mv (.tmp 14)), none⟩]) (.seq (.seq (.ops [⟨(some 15), (.mv (.tmp 7)), none⟩, ⟨(some 16), (.bin .neq (.tmp 15) (.const (.int .i64 (0)))), none⟩]) (.cond (.tmp 16) (.seq (.ops [⟨(some 17), (.mv (.tmp 7)), none⟩, ⟨(some 4), (.mv (.const (.int .u8 (0)))), none⟩, ⟨(some 5), (.mv (.tmp 17)), none⟩]) .ret) .skip)) (.seq (.seq (.ops [⟨(some 18), (.mv (.tmp 1)), none⟩, ⟨(some 19), (.bin .lss (.tmp 18) (.const (.int .i64 (0)))), none⟩, ⟨(some 20), (.mv (.tmp 19)), none⟩, ⟨(some 21), (.mv (.tmp 1)), (some ((some 20), false))⟩, ⟨(some 22), (.mv (.tmp 6)), (some ((some 20), false))⟩, ⟨(some 23), (.bin .geq (.tmp 21) (.tmp 22)), (some ((some 20), false))⟩, ⟨(some 24), (.pick (.tmp 20) (.const (.bool true)) (.tmp 23)), none⟩]) (.cond (.tmp 24) (.seq (.ops [⟨(some 4), (.mv (.const (.int .u8 (0)))), none⟩, ⟨(some 5), (.mv (.const (.int .i64 (1)))), none⟩]) .ret) .skip)) (.seq (.ops [⟨(some 26), (.mv (.tmp 0)), none⟩, ⟨(some 27), (.call (.func 35) #[(.tmp 26)]), none⟩, ⟨(some 25), (.mv (.tmp 27)), none⟩, ⟨(some 28), (.extract (.tmp 25) 0), none⟩, ⟨(some 29), (.extract (.tmp 25) 1), none⟩, ⟨(some 8), (.mv (.tmp 28)), none⟩, ⟨(some 9), (.mv (.tmp 29)), none⟩]) (.seq (.ops [⟨(some 30), (.mv (.tmp 0)), none⟩, ⟨(some 31), (.mv (.tmp 8)), none⟩, ⟨(some 32), (.mv (.tmp 0)), none⟩, ⟨(some 33), (.lenL (.tmp 32)), none⟩, ⟨(some 34), (.bin .sub (.tmp 33) (.const (.int .i64 (1)))), none⟩, ⟨(some 35), (.mv (.tmp 1)), none⟩, ⟨(some 36), (.call (.func 37) #[(.tmp 30), (.tmp 31), (.tmp 34), (.tmp 35)]), none⟩, ⟨(some 4), (.mv (.tmp 36)), none⟩, ⟨(some 5), (.mv (.const (.int .i64 (0)))), none⟩]) .ret))))))⟩
theorem a14_eq : compFunc Tryd.prog [0] 14 = some a14 := by kernel_rfl
def PT14 : List (PC KK GG) := [pc35, pc37, pc12]
def PQ14 : List (PP KK GG) := []
def L14 : List Lh := [⟨1569777, [(1, .as), (0, .as), (24, .as)], ⟨[.bool, (.sl (.pair .str (.pair (.int .i64) (.pair (.int .i64) (.pair (.int .i64) .unit))))), (.int .i64)], [(1, .v (.a (.pu 0))), (0, .v (.a (.pu 1))), (24, .v (.a (.pu 2)))], []⟩, []⟩]
def X14 : List Xh := [⟨.r, [(4, .as), (5, .as)], ⟨[(.int .i64), (.int .u8)], [(4, .v (.a (.pu 0))), (5, .v (.a (.pu 1)))], []⟩⟩]
def F14 (k : Nat) : List (ByteArray × Int × Int × Int × Unit) × Int × Unit → Option (Int × Int × Unit) := fun (e : List (ByteArray × Int × Int × Int × Unit) × Int × Unit) =>
  (F12 k (e.fst, ())).bind fun (x : Int × Int × Unit) =>
    if (x.snd.fst != (0 : Int)) = true then some ((0 : Int), x.snd.fst, ())
    else
      (if decide (e.snd.fst < (0 : Int)) = true then some (Sum.inl (true, e.fst, e.snd.fst, ()))
          else some (Sum.inl (decide (e.snd.fst ≥ x.fst), e.fst, e.snd.fst, ()))).bind
        (sumE
          (fun (e : Bool × List (ByteArray × Int × Int × Int × Unit) × Int × Unit) =>
            if e.fst = true then some ((0 : Int), (1 : Int), ())
            else
              (F35 k (e.snd.fst, ())).bind fun (x : List Int × Bool × Unit) =>
                (F37 k
                      (e.snd.fst, x.fst, IntKind.i64.wrap ((↑e.snd.fst.length : Int) - (1 : Int)), e.snd.snd.fst,
                        ())).bind
                  fun (x : Int × Unit) => some (x.fst, (0 : Int), ()))
          emE)
theorem F14_eq (k : Nat) : funT (K := KK) (G := GG) PT14 TTSlRp PQ14 L14 k 400 a14 [((.sl (.pair .str (.pair (.int .i64) (.pair (.int .i64) (.pair (.int .i64) .unit)))))), ((.int .i64))] [((.int .u8), none), ((.int .i64), none)] X14 = some (F14 k) := by kernel_rfl
def pc14 : PC KK GG := ⟨14, [((.sl (.pair .str (.pair (.int .i64) (.pair (.int .i64) (.pair (.int .i64) .unit)))))), ((.int .i64))], [((.int .u8), none), ((.int .i64), none)], F14, fun k H Z e vs h1 h2 h3 r h4 => fun_ok a14_eq (fun a H => xo_none 14 a H (of_decide_eq_true (by kernel_rfl))) GG_keep (of_decide_eq_true (by kernel_rfl)) (F14_eq k) H Z e vs h1 h2 h3 r h4⟩
end Go.Proofs.YtehbekgmemebjaaDoorEv
