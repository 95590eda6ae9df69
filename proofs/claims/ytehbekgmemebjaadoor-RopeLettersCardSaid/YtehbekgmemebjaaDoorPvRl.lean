import Derived.Test.YtehbekgmemebjaaDoorPvN
import Derived.Test.YtehbekgmemebjaaDoorProg
import Derived.Test.YtehbekgmemebjaaDoorPvRp
namespace Go.Proofs.YtehbekgmemebjaaDoorEv
open Go
set_option linter.unusedVariables false
set_option linter.unusedSimpArgs false
set_option maxRecDepth 100000
def TTPvRl : Nat → Option Ty
  | 5 => (some (.int .u8))
  | 55 => (some (.pair .str (.pair (.int .i64) (.pair (.int .i64) (.pair (.int .i64) .unit)))))
  | 85 => (some (.pair (.int .i64) (.pair (.int .i64) .unit)))
  | _ => none
def a17 : AFunc := ⟨78, [(.tmp 4), (.tmp 5)], (.seq (.ops [⟨(some 4), (.mv (.const (.int .u8 (0)))), none⟩, ⟨(some 5), (.mv (.const (.int .i64 (0)))), none⟩]) (.seq (.ops [⟨(some 11), (.mv (.tmp 0)), none⟩, ⟨(some 12), (.call (.func 31) #[(.tmp 11)]), none⟩, ⟨(some 10), (.mv (.tmp 12)), none⟩, ⟨(some 13), (.extract (.tmp 10) 0), none⟩, ⟨(some 14), (.extract (.tmp 10) 1), none⟩, ⟨(some 6), (.mv (.tmp 13)), none⟩, ⟨(some 7), (.mv (.tmp 14)), none⟩]) (.seq (.seq (.ops [⟨(some 15), (.mv (.tmp 7)), none⟩, ⟨(some 16), (.bin .neq (.tmp 15) (.const (.int .i64 (0)))), none⟩]) (.cond (.tmp 16) (.seq (.ops [⟨(some 17), (.mv (.tmp 7)), none⟩, ⟨(some 4), (.mv (.const (.int .u8 (0)))), none⟩, ⟨(some 5), (.mv (.tmp 17)), none⟩]) .ret) .skip)) (.seq (.seq (.ops [⟨(some 18), (.mv (.tmp 1)), none⟩, ⟨(some 19), (.bin .lss (.tmp 18) (.const (.int .i64 (0)))), none⟩, ⟨(some 20), (.mv (.tmp 19)), none⟩, ⟨(some 21), (.mv (.tmp 1)), (some ((some 20), false))⟩, ⟨(some 22), (.mv (.tmp 6)), (some ((some 20), false))⟩, ⟨(some 23), (.call (.func 32) #[(.tmp 22)]), (some ((some 20), false))⟩, ⟨(some 24), (.bin .geq (.tmp 21) (.tmp 23)), (some ((some 20), false))⟩, ⟨(some 25), (.pick (.tmp 20) (.const (.bool true)) (.tmp 24)), none⟩]) (.cond (.tmp 25) (.seq (.ops [⟨(some 4), (.mv (.const (.int .u8 (0)))), none⟩, ⟨(some 5), (.mv (.const (.int .i64 (1)))), none⟩]) .ret) .skip)) (.seq (.ops [⟨(some 26), (.mv (.tmp 0)), none⟩, ⟨(some 27), (.lenL (.tmp 26)), none⟩, ⟨(some 28), (.bin .sub (.tmp 27) (.const (.int .i64 (1)))), none⟩, ⟨(some 8), (.mv (.tmp 28)), none⟩]) (.seq (.block 0 (.loop (.seq (.seq (.ops [⟨(some 29), (.mv (.tmp 0)), none⟩, ⟨(some 30), (.mv (.tmp 8)), none⟩, ⟨(some 31), (.ixS 4 (.tmp 29) (.tmp 30)), none⟩, ⟨(some 32), (.off (.tmp 31) 0), none⟩, ⟨(some 33), (.load (.tmp 32)), none⟩, ⟨(some 34), (.bin .eql (.tmp 33) (.const (.string (⟨#[]⟩ : ByteArray)))), none⟩]) (.cond (.tmp 34) .skip (.exit 0))) (.block 1 (.seq (.ops [⟨(some 35), (.mv (.tmp 0)), none⟩, ⟨(some 36), (.mv (.tmp 8)), none⟩, ⟨(some 37), (.ixS 4 (.tmp 35) (.tmp 36)), none⟩, ⟨(some 38), (.loadA 4 (.tmp 37)), none⟩, ⟨(some 9), (.new 55 [(.string (⟨#[]⟩ : ByteArray)), (.int .i64 (0)), (.int .i64 (0)), (.int .i64 (0))]), none⟩, ⟨none, (.store 4 (.tmp 9) (.tmp 38)), none⟩]) (.block 2 (.seq (.ops [⟨(some 49), (.off (.tmp 9) 3), none⟩, ⟨(some 50), (.load (.tmp 49)), none⟩, ⟨(some 51), (.bin .neq (.tmp 50) (.const (.int .i64 (0)))), none⟩, ⟨(some 48), (.mv (.tmp 51)), none⟩]) (.cond (.tmp 48) (.seq (.ops [⟨(some 52), (.mv (.tmp 1)), none⟩, ⟨(some 53), (.mv (.tmp 6)), none⟩, ⟨(some 54), (.off (.tmp 9) 1), none⟩, ⟨(some 55), (.load (.tmp 54)), none⟩, ⟨(some 56), (.ixS 1 (.tmp 53) (.tmp 55)), none⟩, ⟨(some 57), (.load (.tmp 56)), none⟩, ⟨(some 58), (.bin .rem (.tmp 52) (.tmp 57)), none⟩, ⟨(some 1), (.mv (.tmp 58)), none⟩]) (.ops [⟨(some 59), (.off (.tmp 9) 1), none⟩, ⟨(some 60), (.load (.tmp 59)), none⟩, ⟨(some 8), (.mv (.tmp 60)), none⟩])) (.seq (.ops [⟨(some 62), (.mv (.tmp 1)), none⟩, ⟨(some 63), (.mv (.tmp 6)), none⟩, ⟨(some 64), (.off (.tmp 9) 1), none⟩, ⟨(some 65), (.load (.tmp 64)), none⟩, ⟨(some 66), (.ixS 1 (.tmp 63) (.tmp 65)), none⟩, ⟨(some 67), (.load (.tmp 66)), none⟩, ⟨(some 68), (.bin .lss (.tmp 62) (.tmp 67)), none⟩, ⟨(some 61), (.mv (.tmp 68)), none⟩]) (.cond (.tmp 61) (.ops [⟨(some 69), (.off (.tmp 9) 1), none⟩, ⟨(some 70), (.load (.tmp 69)), none⟩, ⟨(some 8), (.mv (.tmp 70)), none⟩]) (.seq (.ops [⟨(some 39), (.mv (.tmp 1)), none⟩, ⟨(some 40), (.mv (.tmp 6)), none⟩, ⟨(some 41), (.off (.tmp 9) 1), none⟩, ⟨(some 42), (.load (.tmp 41)), none⟩, ⟨(some 43), (.ixS 1 (.tmp 40) (.tmp 42)), none⟩, ⟨(some 44), (.load (.tmp 43)), none⟩, ⟨(some 45), (.bin .sub (.tmp 39) (.tmp 44)), none⟩, ⟨(some 1), (.mv (.tmp 45)), none⟩]) (.ops [⟨(some 46), (.off (.tmp 9) 2), none⟩, ⟨(some 47), (.load (.tmp 46)), none⟩, ⟨(some 8), (.mv (.tmp 47)), none⟩])))))))))))) (.seq (.ops [⟨(some 71), (.mv (.tmp 0)), none⟩, ⟨(some 72), (.mv (.tmp 8)), none⟩, ⟨(some 73), (.ixS 4 (.tmp 71) (.tmp 72)), none⟩, ⟨(some 74), (.off (.tmp 73) 0), none⟩, ⟨(some 75), (.load (.tmp 74)), none⟩, ⟨(some 76), (.mv (.tmp 1)), none⟩, ⟨(some 77), (.ixStr (.tmp 75) (.tmp 76)), none⟩, ⟨(some 4), (.mv (.tmp 77)), none⟩, ⟨(some 5), (.mv (.const (.int .i64 (0)))), none⟩]) .ret)))))))⟩
theorem a17_eq : compFunc Tryd.prog [0] 17 = some a17 := by kernel_rfl
def PT17 : List (PC KK GG) := [(pc31), (pc32)]
def PQ17 : List (PP KK GG) := []
def L17 : List Lh := [⟨1493295, [(1, .as), (0, .as), (6, .as), (25, .as)], ⟨[.bool, (.sl (.int .i64)), (.sl (.pair .str (.pair (.int .i64) (.pair (.int .i64) (.pair (.int .i64) .unit))))), (.int .i64)], [(1, .v (.a (.pu 0))), (0, .v (.a (.pu 1))), (6, .v (.a (.pu 2))), (25, .v (.a (.pu 3)))], []⟩, []⟩, ⟨0, [(1, .as), (8, .as), (0, .as), (6, .as)], ⟨[(.sl (.int .i64)), (.sl (.pair .str (.pair (.int .i64) (.pair (.int .i64) (.pair (.int .i64) .unit))))), (.int .i64), (.int .i64)], [(1, .v (.a (.pu 0))), (8, .v (.a (.pu 1))), (0, .v (.a (.pu 2))), (6, .v (.a (.pu 3)))], []⟩, [⟨.x 0, [(1, .as), (8, .as), (0, .as)], ⟨[(.sl (.pair .str (.pair (.int .i64) (.pair (.int .i64) (.pair (.int .i64) .unit))))), (.int .i64), (.int .i64)], [(1, .v (.a (.pu 0))), (8, .v (.a (.pu 1))), (0, .v (.a (.pu 2)))], []⟩⟩]⟩]
def X17 : List Xh := [⟨.r, [(4, .as), (5, .as)], ⟨[(.int .i64), (.int .u8)], [(4, .v (.a (.pu 0))), (5, .v (.a (.pu 1)))], []⟩⟩]
def F17 (k : Nat) : List (ByteArray × Int × Int × Int × Unit) × Int × Unit → Option (Int × Int × Unit) := fun (e : List (ByteArray × Int × Int × Int × Unit) × Int × Unit) =>
  (F31 k (e.fst, ())).bind fun (x : List Int × Int × Unit) =>
    if (x.snd.fst != (0 : Int)) = true then some ((0 : Int), x.snd.fst, ())
    else
      (if decide (e.snd.fst < (0 : Int)) = true then some (Sum.inl (true, x.fst, e.fst, e.snd.fst, ()))
          else
            (F32 k (x.fst, ())).bind fun (x_1 : Int × Unit) =>
              some (Sum.inl (decide (e.snd.fst ≥ x_1.fst), x.fst, e.fst, e.snd.fst, ()))).bind
        (sumE
          (fun (e : Bool × List Int × List (ByteArray × Int × Int × Int × Unit) × Int × Unit) =>
            if e.fst = true then some ((0 : Int), (1 : Int), ())
            else
              (iter
                    (fun (e : List Int × List (ByteArray × Int × Int × Int × Unit) × Int × Int × Unit) =>
                      (atL e.snd.fst e.snd.snd.fst).bind fun (x : ByteArray × Int × Int × Int × Unit) =>
                        if (x.fst.toList == (⟨#[]⟩ : ByteArray).toList) = true then
                          (atL e.snd.fst e.snd.snd.fst).bind fun (x : ByteArray × Int × Int × Int × Unit) =>
                            if (x.snd.snd.snd.fst != (0 : Int)) = true then
                              (atL e.fst x.snd.fst).bind fun (x_1 : Int) =>
                                (if x_1 = (0 : Int) then none else some (e.snd.snd.snd.fst.tmod x_1)).bind
                                  fun (x_2 : Int) => some (Sum.inl (e.fst, e.snd.fst, x.snd.fst, x_2, ()))
                            else
                              (atL e.fst x.snd.fst).bind fun (x_1 : Int) =>
                                if decide (e.snd.snd.snd.fst < x_1) = true then
                                  some (Sum.inl (e.fst, e.snd.fst, x.snd.fst, e.snd.snd.snd.fst, ()))
                                else
                                  (atL e.fst x.snd.fst).bind fun (x_2 : Int) =>
                                    some
                                      (Sum.inl
                                        (e.fst, e.snd.fst, x.snd.snd.fst, IntKind.i64.wrap (e.snd.snd.snd.fst - x_2),
                                          ()))
                        else some (Sum.inr (Sum.inl (e.snd.fst, e.snd.snd.fst, e.snd.snd.snd.fst, ()))))
                    k
                    (e.snd.fst, e.snd.snd.fst, IntKind.i64.wrap ((↑e.snd.snd.fst.length : Int) - (1 : Int)),
                      e.snd.snd.snd.fst, ())).bind
                (sumE
                  (fun (e : List (ByteArray × Int × Int × Int × Unit) × Int × Int × Unit) =>
                    (atL e.fst e.snd.fst).bind fun (x : ByteArray × Int × Int × Int × Unit) =>
                      (atB x.fst e.snd.snd.fst).bind fun (x : Int) => some (x, (0 : Int), ()))
                  emE))
          emE)
theorem F17_eq (k : Nat) : funT (K := KK) (G := GG) PT17 TTPvRl PQ17 L17 k 400 a17 [((.sl (.pair .str (.pair (.int .i64) (.pair (.int .i64) (.pair (.int .i64) .unit)))))), ((.int .i64))] [((.int .u8), none), ((.int .i64), none)] X17 = some (F17 k) := by kernel_rfl
def pc17 : PC KK GG := ⟨17, [((.sl (.pair .str (.pair (.int .i64) (.pair (.int .i64) (.pair (.int .i64) .unit)))))), ((.int .i64))], [((.int .u8), none), ((.int .i64), none)], F17, fun k H Z e vs h1 h2 h3 r h4 => fun_ok a17_eq (xo_none (f := 17) (of_decide_eq_true (by kernel_rfl))) GG_keep (of_decide_eq_true (by kernel_rfl)) (F17_eq k) H Z e vs h1 h2 h3 r h4⟩
def a39 : AFunc := ⟨80, [(.tmp 2)], (.seq (.ops [⟨(some 2), (.mv (.const (.string (⟨#[]⟩ : ByteArray)))), none⟩]) (.seq (.ops [⟨(some 3), (.mv (.const (.slice none 0 0))), none⟩]) (.seq (.ops [⟨(some 7), (.mv (.tmp 0)), none⟩, ⟨(some 8), (.lenL (.tmp 7)), none⟩, ⟨(some 9), (.bin .sub (.tmp 8) (.const (.int .i64 (1)))), none⟩, ⟨(some 10), (.build #[(.int .i64 (0)), (.int .i64 (0))] #[(0, 1), (1, 1)] #[(0, (.tmp 9)), (1, (.const (.int .i64 (1))))]), none⟩, ⟨(some 11), (.bslice 85 #[(.int .i64 (0)), (.int .i64 (0))] 2 1 #[(0, (.tmp 10))]), none⟩, ⟨(some 4), (.mv (.tmp 11)), none⟩]) (.seq (.block 0 (.loop (.seq (.seq (.ops [⟨(some 12), (.mv (.tmp 4)), none⟩, ⟨(some 13), (.lenL (.tmp 12)), none⟩, ⟨(some 14), (.bin .gtr (.tmp 13) (.const (.int .i64 (0)))), none⟩, ⟨(some 15), (.mv (.tmp 14)), none⟩, ⟨(some 16), (.mv (.tmp 0)), (some ((some 15), true))⟩, ⟨(some 17), (.lenL (.tmp 16)), (some ((some 15), true))⟩, ⟨(some 18), (.bin .gtr (.tmp 17) (.const (.int .i64 (0)))), (some ((some 15), true))⟩, ⟨(some 19), (.pick (.tmp 15) (.tmp 18) (.const (.bool false))), none⟩]) (.cond (.tmp 19) .skip (.exit 0))) (.block 1 (.seq (.ops [⟨(some 20), (.mv (.tmp 4)), none⟩, ⟨(some 21), (.mv (.tmp 4)), none⟩, ⟨(some 22), (.lenL (.tmp 21)), none⟩, ⟨(some 23), (.bin .sub (.tmp 22) (.const (.int .i64 (1)))), none⟩, ⟨(some 24), (.ixS 2 (.tmp 20) (.tmp 23)), none⟩, ⟨(some 5), (.mv (.tmp 24)), none⟩]) (.seq (.seq (.ops [⟨(some 25), (.mv (.tmp 5)), none⟩, ⟨(some 26), (.nilchk (.tmp 25)), none⟩, ⟨(some 27), (.off (.tmp 26) 1), none⟩, ⟨(some 28), (.load (.tmp 27)), none⟩, ⟨(some 29), (.bin .eql (.tmp 28) (.const (.int .i64 (0)))), none⟩]) (.cond (.tmp 29) (.seq (.ops [⟨(some 30), (.mv (.tmp 4)), none⟩, ⟨(some 31), (.mv (.tmp 4)), none⟩, ⟨(some 32), (.lenL (.tmp 31)), none⟩, ⟨(some 33), (.bin .sub (.tmp 32) (.const (.int .i64 (1)))), none⟩, ⟨(some 34), (.slc 2 (.tmp 30) none (some (.tmp 33)) none), none⟩, ⟨(some 4), (.mv (.tmp 34)), none⟩]) (.exit 1)) .skip)) (.seq (.ops [⟨(some 35), (.mv (.tmp 5)), none⟩, ⟨(some 36), (.nilchk (.tmp 35)), none⟩, ⟨(some 37), (.off (.tmp 36) 1), none⟩, ⟨(some 38), (.load (.tmp 37)), none⟩, ⟨(some 39), (.bin .sub (.tmp 38) (.const (.int .i64 (1)))), none⟩, ⟨(some 40), (.nilchk (.tmp 35)), none⟩, ⟨(some 41), (.off (.tmp 40) 1), none⟩, ⟨none, (.store 1 (.tmp 41) (.tmp 39)), none⟩]) (.seq (.ops [⟨(some 42), (.mv (.tmp 0)), none⟩, ⟨(some 43), (.mv (.tmp 5)), none⟩, ⟨(some 44), (.nilchk (.tmp 43)), none⟩, ⟨(some 45), (.off (.tmp 44) 0), none⟩, ⟨(some 46), (.load (.tmp 45)), none⟩, ⟨(some 47), (.ixS 4 (.tmp 42) (.tmp 46)), none⟩, ⟨(some 48), (.loadA 4 (.tmp 47)), none⟩, ⟨(some 6), (.new 55 [(.string (⟨#[]⟩ : ByteArray)), (.int .i64 (0)), (.int .i64 (0)), (.int .i64 (0))]), none⟩, ⟨none, (.store 4 (.tmp 6) (.tmp 48)), none⟩]) (.block 2 (.seq (.ops [⟨(some 59), (.off (.tmp 6) 0), none⟩, ⟨(some 60), (.load (.tmp 59)), none⟩, ⟨(some 61), (.bin .neq (.tmp 60) (.const (.string (⟨#[]⟩ : ByteArray)))), none⟩, ⟨(some 58), (.mv (.tmp 61)), none⟩]) (.cond (.tmp 58) (.ops [⟨(some 62), (.mv (.tmp 3)), none⟩, ⟨(some 63), (.off (.tmp 6) 0), none⟩, ⟨(some 64), (.load (.tmp 63)), none⟩, ⟨(some 65), (.append 5 1 1 (.tmp 62) (.tmp 64)), none⟩, ⟨(some 3), (.mv (.tmp 65)), none⟩]) (.seq (.ops [⟨(some 67), (.off (.tmp 6) 3), none⟩, ⟨(some 68), (.load (.tmp 67)), none⟩, ⟨(some 69), (.bin .neq (.tmp 68) (.const (.int .i64 (0)))), none⟩, ⟨(some 66), (.mv (.tmp 69)), none⟩]) (.cond (.tmp 66) (.ops [⟨(some 70), (.mv (.tmp 4)), none⟩, ⟨(some 71), (.off (.tmp 6) 1), none⟩, ⟨(some 72), (.load (.tmp 71)), none⟩, ⟨(some 73), (.off (.tmp 6) 3), none⟩, ⟨(some 74), (.load (.tmp 73)), none⟩, ⟨(some 75), (.build #[(.int .i64 (0)), (.int .i64 (0))] #[(0, 1), (1, 1)] #[(0, (.tmp 72)), (1, (.tmp 74))]), none⟩, ⟨(some 76), (.bslice 85 #[(.int .i64 (0)), (.int .i64 (0))] 2 1 #[(0, (.tmp 75))]), none⟩, ⟨(some 77), (.append 85 2 16 (.tmp 70) (.tmp 76)), none⟩, ⟨(some 4), (.mv (.tmp 77)), none⟩]) (.ops [⟨(some 49), (.mv (.tmp 4)), none⟩, ⟨(some 50), (.off (.tmp 6) 2), none⟩, ⟨(some 51), (.load (.tmp 50)), none⟩, ⟨(some 52), (.build #[(.int .i64 (0)), (.int .i64 (0))] #[(0, 1), (1, 1)] #[(0, (.tmp 51)), (1, (.const (.int .i64 (1))))]), none⟩, ⟨(some 53), (.off (.tmp 6) 1), none⟩, ⟨(some 54), (.load (.tmp 53)), none⟩, ⟨(some 55), (.build #[(.int .i64 (0)), (.int .i64 (0))] #[(0, 1), (1, 1)] #[(0, (.tmp 54)), (1, (.const (.int .i64 (1))))]), none⟩, ⟨(some 56), (.bslice 85 #[(.int .i64 (0)), (.int .i64 (0))] 2 2 #[(0, (.tmp 52)), (1, (.tmp 55))]), none⟩, ⟨(some 57), (.append 85 2 16 (.tmp 49) (.tmp 56)), none⟩, ⟨(some 4), (.mv (.tmp 57)), none⟩])))))))))))))) (.seq (.ops [⟨(some 78), (.mv (.tmp 3)), none⟩, ⟨(some 79), (.convBS (.tmp 78)), none⟩, ⟨(some 2), (.mv (.tmp 79)), none⟩]) .ret)))))⟩
theorem a39_eq : compFunc Tryd.prog [0] 39 = some a39 := by kernel_rfl
def PT39 : List (PC KK GG) := []
def PQ39 : List (PP KK GG) := []
def L39 : List Lh := [⟨1228754, [(3, .as), (0, .as), (4, .as), (19, .as)], ⟨[.bool, (.sl (.pair (.int .i64) (.pair (.int .i64) .unit))), (.sl (.pair .str (.pair (.int .i64) (.pair (.int .i64) (.pair (.int .i64) .unit))))), (.sl (.int .u8))], [(3, .v (.a (.hd 0))), (0, .v (.a (.pu 1))), (4, .v (.a (.hd 1))), (19, .v (.a (.pu 3)))], [.sl (.int .u8) 5 0, .sl (.pair (.int .i64) (.pair (.int .i64) .unit)) 85 2]⟩, []⟩, ⟨0, [(3, .own (.int .u8) 5), (0, .shr (.pair .str (.pair (.int .i64) (.pair (.int .i64) (.pair (.int .i64) .unit))))), (4, .as)], ⟨[(.sl (.pair (.int .i64) (.pair (.int .i64) .unit))), (.sl (.pair .str (.pair (.int .i64) (.pair (.int .i64) (.pair (.int .i64) .unit))))), (.sl (.int .u8))], [(3, .v (.a (.hd 0))), (0, .v (.a (.pu 1))), (4, .v (.a (.hd 1)))], [.sl (.int .u8) 5 0, .sl (.pair (.int .i64) (.pair (.int .i64) .unit)) 85 2]⟩, [⟨.x 0, [(3, .as)], ⟨[(.sl (.int .u8))], [(3, .v (.a (.hd 0)))], [.sl (.int .u8) 5 0]⟩⟩]⟩]
def X39 : List Xh := [⟨.r, [(2, .as)], ⟨[.str], [(2, .v (.a (.pu 0)))], []⟩⟩]
def F39 (k : Nat) : List (ByteArray × Int × Int × Int × Unit) × Unit → Option (ByteArray × Unit) := fun (e : List (ByteArray × Int × Int × Int × Unit) × Unit) =>
  (iter
        (fun (e : List (Int × Int × Unit) × List (ByteArray × Int × Int × Int × Unit) × List Int × Unit) =>
          (if decide ((↑e.fst.length : Int) > (0 : Int)) = true then
                some (Sum.inl (decide ((↑e.snd.fst.length : Int) > (0 : Int)), e.fst, e.snd.fst, e.snd.snd.fst, ()))
              else some (Sum.inl (false, e.fst, e.snd.fst, e.snd.snd.fst, ()))).bind
            (sumE
              (fun
                  (e :
                    Bool × List (Int × Int × Unit) × List (ByteArray × Int × Int × Int × Unit) × List Int × Unit) =>
                if e.fst = true then
                  if
                      (0 : Int) ≤ IntKind.i64.wrap ((↑e.snd.fst.length : Int) - (1 : Int)) ∧
                        IntKind.i64.wrap ((↑e.snd.fst.length : Int) - (1 : Int)) < (↑e.snd.fst.length : Int) then
                    ((atL e.snd.fst (IntKind.i64.wrap ((↑e.snd.fst.length : Int) - (1 : Int)))).bind
                          fun (y : Int × Int × Unit) => some y.snd.fst).bind
                      fun (x : Int) =>
                      if (x == (0 : Int)) = true then
                        (cutL e.snd.fst none (some (IntKind.i64.wrap ((↑e.snd.fst.length : Int) - (1 : Int))))).bind
                          fun (x : List (Int × Int × Unit)) => some (Sum.inl (x, e.snd.snd.fst, e.snd.snd.snd.fst, ()))
                      else
                        ((atL e.snd.fst (IntKind.i64.wrap ((↑e.snd.fst.length : Int) - (1 : Int)))).bind
                              fun (y : Int × Int × Unit) => some y.snd.fst).bind
                          fun (x : Int) =>
                          (atL e.snd.fst (IntKind.i64.wrap ((↑e.snd.fst.length : Int) - (1 : Int)))).bind
                            fun (x_1 : Int × Int × Unit) =>
                            ((atL
                                      (e.snd.fst.set (IntKind.i64.wrap ((↑e.snd.fst.length : Int) - (1 : Int))).toNat
                                        (x_1.fst, IntKind.i64.wrap (x - (1 : Int)), x_1.snd.snd))
                                      (IntKind.i64.wrap ((↑e.snd.fst.length : Int) - (1 : Int)))).bind
                                  fun (y : Int × Int × Unit) => some y.fst).bind
                              fun (x_2 : Int) =>
                              (atL e.snd.snd.fst x_2).bind fun (x_3 : ByteArray × Int × Int × Int × Unit) =>
                                if (!x_3.fst.toList == (⟨#[]⟩ : ByteArray).toList) = true then
                                  if bigB (e.snd.snd.snd.fst.length + (strI x_3.fst).length) (1 : Nat) = true then none
                                  else
                                    some
                                      (Sum.inl
                                        (e.snd.fst.set (IntKind.i64.wrap ((↑e.snd.fst.length : Int) - (1 : Int))).toNat
                                            (x_1.fst, IntKind.i64.wrap (x - (1 : Int)), x_1.snd.snd),
                                          e.snd.snd.fst, e.snd.snd.snd.fst ++ strI x_3.fst, ()))
                                else
                                  if (x_3.snd.snd.snd.fst != (0 : Int)) = true then
                                    if
                                        bigB
                                            ((e.snd.fst.set
                                                  (IntKind.i64.wrap ((↑e.snd.fst.length : Int) - (1 : Int))).toNat
                                                  (x_1.fst, IntKind.i64.wrap (x - (1 : Int)), x_1.snd.snd)).length +
                                              ((List.replicate (1 : Nat) ((0 : Int), (0 : Int), ())).set (0 : Nat)
                                                  (x_3.snd.fst, x_3.snd.snd.snd.fst, ())).length)
                                            (16 : Nat) =
                                          true then
                                      none
                                    else
                                      some
                                        (Sum.inl
                                          (e.snd.fst.set
                                                (IntKind.i64.wrap ((↑e.snd.fst.length : Int) - (1 : Int))).toNat
                                                (x_1.fst, IntKind.i64.wrap (x - (1 : Int)), x_1.snd.snd) ++
                                              (List.replicate (1 : Nat) ((0 : Int), (0 : Int), ())).set (0 : Nat)
                                                (x_3.snd.fst, x_3.snd.snd.snd.fst, ()),
                                            e.snd.snd.fst, e.snd.snd.snd.fst, ()))
                                  else
                                    if
                                        bigB
                                            ((e.snd.fst.set
                                                  (IntKind.i64.wrap ((↑e.snd.fst.length : Int) - (1 : Int))).toNat
                                                  (x_1.fst, IntKind.i64.wrap (x - (1 : Int)), x_1.snd.snd)).length +
                                              (((List.replicate (2 : Nat) ((0 : Int), (0 : Int), ())).set (0 : Nat)
                                                      (x_3.snd.snd.fst, (1 : Int), ())).set
                                                  (1 : Nat) (x_3.snd.fst, (1 : Int), ())).length)
                                            (16 : Nat) =
                                          true then
                                      none
                                    else
                                      some
                                        (Sum.inl
                                          (e.snd.fst.set
                                                (IntKind.i64.wrap ((↑e.snd.fst.length : Int) - (1 : Int))).toNat
                                                (x_1.fst, IntKind.i64.wrap (x - (1 : Int)), x_1.snd.snd) ++
                                              ((List.replicate (2 : Nat) ((0 : Int), (0 : Int), ())).set (0 : Nat)
                                                    (x_3.snd.snd.fst, (1 : Int), ())).set
                                                (1 : Nat) (x_3.snd.fst, (1 : Int), ()),
                                            e.snd.snd.fst, e.snd.snd.snd.fst, ()))
                  else none
                else some (Sum.inr (Sum.inl (e.snd.snd.snd.fst, ()))))
              emE))
        k
        ((List.replicate (1 : Nat) ((0 : Int), (0 : Int), ())).set (0 : Nat)
            (IntKind.i64.wrap ((↑e.fst.length : Int) - (1 : Int)), (1 : Int), ()),
          e.fst, [], ())).bind
    (sumE (fun (e : List Int × Unit) => some (strOfNums e.fst, ())) emE)
theorem F39_eq (k : Nat) : funT (K := KK) (G := GG) PT39 TTPvRl PQ39 L39 k 400 a39 [((.sl (.pair .str (.pair (.int .i64) (.pair (.int .i64) (.pair (.int .i64) .unit))))))] [(.str, none)] X39 = some (F39 k) := by kernel_rfl
def pc39 : PC KK GG := ⟨39, [((.sl (.pair .str (.pair (.int .i64) (.pair (.int .i64) (.pair (.int .i64) .unit))))))], [(.str, none)], F39, fun k H Z e vs h1 h2 h3 r h4 => fun_ok a39_eq (xo_none (f := 39) (of_decide_eq_true (by kernel_rfl))) GG_keep (of_decide_eq_true (by kernel_rfl)) (F39_eq k) H Z e vs h1 h2 h3 r h4⟩
def a18 : AFunc := ⟨19, [(.tmp 2), (.tmp 3)], (.seq (.ops [⟨(some 2), (.mv (.const (.string (⟨#[]⟩ : ByteArray)))), none⟩, ⟨(some 3), (.mv (.const (.int .i64 (0)))), none⟩]) (.seq (.ops [⟨(some 7), (.mv (.tmp 0)), none⟩, ⟨(some 8), (.call (.func 31) #[(.tmp 7)]), none⟩, ⟨(some 6), (.mv (.tmp 8)), none⟩, ⟨(some 9), (.extract (.tmp 6) 0), none⟩, ⟨(some 10), (.extract (.tmp 6) 1), none⟩, ⟨(some 4), (.mv (.tmp 9)), none⟩, ⟨(some 5), (.mv (.tmp 10)), none⟩]) (.seq (.seq (.ops [⟨(some 11), (.mv (.tmp 5)), none⟩, ⟨(some 12), (.bin .neq (.tmp 11) (.const (.int .i64 (0)))), none⟩]) (.cond (.tmp 12) (.seq (.ops [⟨(some 13), (.mv (.tmp 5)), none⟩, ⟨(some 2), (.mv (.const (.string (⟨#[]⟩ : ByteArray)))), none⟩, ⟨(some 3), (.mv (.tmp 13)), none⟩]) .ret) .skip)) (.seq (.seq (.ops [⟨(some 14), (.mv (.tmp 4)), none⟩, ⟨(some 15), (.call (.func 32) #[(.tmp 14)]), none⟩, ⟨(some 16), (.bin .gtr (.tmp 15) (.const (.int .i64 (100000)))), none⟩]) (.cond (.tmp 16) (.seq (.ops [⟨(some 2), (.mv (.const (.string (⟨#[]⟩ : ByteArray)))), none⟩, ⟨(some 3), (.mv (.const (.int .i64 (2)))), none⟩]) .ret) .skip)) (.seq (.ops [⟨(some 17), (.mv (.tmp 0)), none⟩, ⟨(some 18), (.call (.func 39) #[(.tmp 17)]), none⟩, ⟨(some 2), (.mv (.tmp 18)), none⟩, ⟨(some 3), (.mv (.const (.int .i64 (0)))), none⟩]) .ret)))))⟩
theorem a18_eq : compFunc Tryd.prog [0] 18 = some a18 := by kernel_rfl
def PT18 : List (PC KK GG) := [pc39, (pc31), (pc32)]
def PQ18 : List (PP KK GG) := []
def L18 : List Lh := []
def X18 : List Xh := [⟨.r, [(2, .as), (3, .as)], ⟨[(.int .i64), .str], [(2, .v (.a (.pu 0))), (3, .v (.a (.pu 1)))], []⟩⟩]
def F18 (k : Nat) : List (ByteArray × Int × Int × Int × Unit) × Unit → Option (ByteArray × Int × Unit) := fun (e : List (ByteArray × Int × Int × Int × Unit) × Unit) =>
  (F31 k (e.fst, ())).bind fun (x : List Int × Int × Unit) =>
    if (x.snd.fst != (0 : Int)) = true then some ((⟨#[]⟩ : ByteArray), x.snd.fst, ())
    else
      (F32 k (x.fst, ())).bind fun (x : Int × Unit) =>
        if decide (x.fst > (100000 : Int)) = true then some ((⟨#[]⟩ : ByteArray), (2 : Int), ())
        else (F39 k (e.fst, ())).bind fun (x : ByteArray × Unit) => some (x.fst, (0 : Int), ())
theorem F18_eq (k : Nat) : funT (K := KK) (G := GG) PT18 TTPvRl PQ18 L18 k 400 a18 [((.sl (.pair .str (.pair (.int .i64) (.pair (.int .i64) (.pair (.int .i64) .unit))))))] [(.str, none), ((.int .i64), none)] X18 = some (F18 k) := by kernel_rfl
def pc18 : PC KK GG := ⟨18, [((.sl (.pair .str (.pair (.int .i64) (.pair (.int .i64) (.pair (.int .i64) .unit))))))], [(.str, none), ((.int .i64), none)], F18, fun k H Z e vs h1 h2 h3 r h4 => fun_ok a18_eq (xo_none (f := 18) (of_decide_eq_true (by kernel_rfl))) GG_keep (of_decide_eq_true (by kernel_rfl)) (F18_eq k) H Z e vs h1 h2 h3 r h4⟩
def a19 : AFunc := ⟨42, [(.tmp 2), (.tmp 3)], (.seq (.ops [⟨(some 2), (.mv (.const (.string (⟨#[]⟩ : ByteArray)))), none⟩, ⟨(some 3), (.mv (.const (.int .i64 (0)))), none⟩]) (.seq (.ops [⟨(some 11), (.mv (.tmp 0)), none⟩, ⟨(some 12), (.call (.func 12) #[(.tmp 11)]), none⟩, ⟨(some 10), (.mv (.tmp 12)), none⟩, ⟨(some 13), (.extract (.tmp 10) 0), none⟩, ⟨(some 14), (.extract (.tmp 10) 1), none⟩, ⟨(some 4), (.mv (.tmp 13)), none⟩, ⟨(some 5), (.mv (.tmp 14)), none⟩]) (.seq (.seq (.ops [⟨(some 15), (.mv (.tmp 5)), none⟩, ⟨(some 16), (.bin .neq (.tmp 15) (.const (.int .i64 (0)))), none⟩]) (.cond (.tmp 16) (.seq (.ops [⟨(some 17), (.mv (.tmp 5)), none⟩, ⟨(some 2), (.mv (.const (.string (⟨#[]⟩ : ByteArray)))), none⟩, ⟨(some 3), (.mv (.tmp 17)), none⟩]) .ret) .skip)) (.seq (.seq (.ops [⟨(some 18), (.mv (.tmp 4)), none⟩, ⟨(some 19), (.bin .gtr (.tmp 18) (.const (.int .i64 (100000)))), none⟩]) (.cond (.tmp 19) (.seq (.ops [⟨(some 2), (.mv (.const (.string (⟨#[]⟩ : ByteArray)))), none⟩, ⟨(some 3), (.mv (.const (.int .i64 (2)))), none⟩]) .ret) .skip)) (.seq (.ops [⟨(some 21), (.mv (.tmp 0)), none⟩, ⟨(some 22), (.call (.func 35) #[(.tmp 21)]), none⟩, ⟨(some 20), (.mv (.tmp 22)), none⟩, ⟨(some 23), (.extract (.tmp 20) 0), none⟩, ⟨(some 24), (.extract (.tmp 20) 1), none⟩, ⟨(some 6), (.mv (.tmp 23)), none⟩, ⟨(some 7), (.mv (.tmp 24)), none⟩]) (.seq (.ops [⟨(some 8), (.mv (.const (.slice none 0 0))), none⟩]) (.seq (.seq (.ops [⟨(some 9), (.mv (.const (.int .i64 (0)))), none⟩]) (.block 0 (.loop (.seq (.seq (.ops [⟨(some 25), (.mv (.tmp 9)), none⟩, ⟨(some 26), (.mv (.tmp 4)), none⟩, ⟨(some 27), (.bin .lss (.tmp 25) (.tmp 26)), none⟩]) (.cond (.tmp 27) .skip (.exit 0))) (.seq (.block 1 (.ops [⟨(some 30), (.mv (.tmp 8)), none⟩, ⟨(some 31), (.mv (.tmp 0)), none⟩, ⟨(some 32), (.mv (.tmp 6)), none⟩, ⟨(some 33), (.mv (.tmp 0)), none⟩, ⟨(some 34), (.lenL (.tmp 33)), none⟩, ⟨(some 35), (.bin .sub (.tmp 34) (.const (.int .i64 (1)))), none⟩, ⟨(some 36), (.mv (.tmp 9)), none⟩, ⟨(some 37), (.call (.func 37) #[(.tmp 31), (.tmp 32), (.tmp 35), (.tmp 36)]), none⟩, ⟨(some 38), (.bslice 5 #[(.int .u8 (0))] 1 1 #[(0, (.tmp 37))]), none⟩, ⟨(some 39), (.append 5 1 1 (.tmp 30) (.tmp 38)), none⟩, ⟨(some 8), (.mv (.tmp 39)), none⟩])) (.ops [⟨(some 28), (.mv (.tmp 9)), none⟩, ⟨(some 29), (.bin .add (.tmp 28) (.const (.int .i64 (1)))), none⟩, ⟨(some 9), (.mv (.tmp 29)), none⟩])))))) (.seq (.ops [⟨(some 40), (.mv (.tmp 8)), none⟩, ⟨(some 41), (.convBS (.tmp 40)), none⟩, ⟨(some 2), (.mv (.tmp 41)), none⟩, ⟨(some 3), (.mv (.const (.int .i64 (0)))), none⟩]) .ret))))))))⟩
theorem a19_eq : compFunc Tryd.prog [0] 19 = some a19 := by kernel_rfl
def PT19 : List (PC KK GG) := [(pc12), (pc35), (pc37)]
def PQ19 : List (PP KK GG) := []
def L19 : List Lh := [⟨0, [(8, .own (.int .u8) 5), (0, .shr (.pair .str (.pair (.int .i64) (.pair (.int .i64) (.pair (.int .i64) .unit))))), (6, .as), (4, .as), (9, .as)], ⟨[(.int .i64), (.int .i64), (.sl (.int .i64)), (.sl (.pair .str (.pair (.int .i64) (.pair (.int .i64) (.pair (.int .i64) .unit))))), (.sl (.int .u8))], [(8, .v (.a (.hd 0))), (0, .v (.a (.pu 1))), (6, .v (.a (.hd 1))), (4, .v (.a (.pu 3))), (9, .v (.a (.pu 4)))], [.sl (.int .u8) 5 0, .sl (.int .i64) 3 2]⟩, [⟨.x 0, [(8, .as)], ⟨[(.sl (.int .u8))], [(8, .v (.a (.hd 0)))], [.sl (.int .u8) 5 0]⟩⟩]⟩]
def X19 : List Xh := [⟨.r, [(2, .as), (3, .as)], ⟨[(.int .i64), .str], [(2, .v (.a (.pu 0))), (3, .v (.a (.pu 1)))], []⟩⟩]
def F19 (k : Nat) : List (ByteArray × Int × Int × Int × Unit) × Unit → Option (ByteArray × Int × Unit) := fun (e : List (ByteArray × Int × Int × Int × Unit) × Unit) =>
  (F12 k (e.fst, ())).bind fun (x : Int × Int × Unit) =>
    if (x.snd.fst != (0 : Int)) = true then some ((⟨#[]⟩ : ByteArray), x.snd.fst, ())
    else
      if decide (x.fst > (100000 : Int)) = true then some ((⟨#[]⟩ : ByteArray), (2 : Int), ())
      else
        (F35 k (e.fst, ())).bind fun (x_1 : List Int × Bool × Unit) =>
          (iter
                (fun (e : Int × Int × List Int × List (ByteArray × Int × Int × Int × Unit) × List Int × Unit) =>
                  if decide (e.fst < e.snd.fst) = true then
                    (F37 k
                          (e.snd.snd.snd.fst, e.snd.snd.fst,
                            IntKind.i64.wrap ((↑e.snd.snd.snd.fst.length : Int) - (1 : Int)), e.fst, ())).bind
                      fun (x : Int × Unit) =>
                      if
                          bigB
                              (e.snd.snd.snd.snd.fst.length +
                                ((List.replicate (1 : Nat) (0 : Int)).set (0 : Nat) x.fst).length)
                              (1 : Nat) =
                            true then
                        none
                      else
                        some
                          (Sum.inl
                            (IntKind.i64.wrap (e.fst + (1 : Int)), e.snd.fst, e.snd.snd.fst, e.snd.snd.snd.fst,
                              e.snd.snd.snd.snd.fst ++ (List.replicate (1 : Nat) (0 : Int)).set (0 : Nat) x.fst, ()))
                  else some (Sum.inr (Sum.inl (e.snd.snd.snd.snd.fst, ()))))
                k ((0 : Int), x.fst, x_1.fst, e.fst, [], ())).bind
            (sumE (fun (e : List Int × Unit) => some (strOfNums e.fst, (0 : Int), ())) emE)
theorem F19_eq (k : Nat) : funT (K := KK) (G := GG) PT19 TTPvRl PQ19 L19 k 400 a19 [((.sl (.pair .str (.pair (.int .i64) (.pair (.int .i64) (.pair (.int .i64) .unit))))))] [(.str, none), ((.int .i64), none)] X19 = some (F19 k) := by kernel_rfl
def pc19 : PC KK GG := ⟨19, [((.sl (.pair .str (.pair (.int .i64) (.pair (.int .i64) (.pair (.int .i64) .unit))))))], [(.str, none), ((.int .i64), none)], F19, fun k H Z e vs h1 h2 h3 r h4 => fun_ok a19_eq (xo_none (f := 19) (of_decide_eq_true (by kernel_rfl))) GG_keep (of_decide_eq_true (by kernel_rfl)) (F19_eq k) H Z e vs h1 h2 h3 r h4⟩
end Go.Proofs.YtehbekgmemebjaaDoorEv
