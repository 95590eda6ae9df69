import Derived.Test.YtehbekgmemebjaaDoorPvN
import Derived.Test.YtehbekgmemebjaaDoorProg
import Derived.Test.YtehbekgmemebjaaDoorPvRp
import Derived.Test.YtehbekgmemebjaaDoorPvSum2
namespace Go.Proofs.YtehbekgmemebjaaDoorEv
open Go
set_option linter.unusedVariables false
set_option linter.unusedSimpArgs false
set_option maxRecDepth 100000
def TTPvRc : Nat → Option Ty
  | 3 => (some (.int .i64))
  | 42 => (some (.sl (.int .i64)))
  | 55 => (some (.pair .str (.pair (.int .i64) (.pair (.int .i64) (.pair (.int .i64) .unit)))))
  | _ => none
def a23 : AFunc := ⟨14, [(.tmp 2), (.tmp 3)], (.seq (.ops [⟨(some 2), (.mv (.const (.int .i64 (0)))), none⟩, ⟨(some 3), (.mv (.const (.int .i64 (0)))), none⟩]) (.seq (.ops [⟨(some 7), (.mv (.tmp 0)), none⟩, ⟨(some 8), (.call (.func 31) #[(.tmp 7)]), none⟩, ⟨(some 6), (.mv (.tmp 8)), none⟩, ⟨(some 9), (.extract (.tmp 6) 0), none⟩, ⟨(some 10), (.extract (.tmp 6) 1), none⟩, ⟨(some 4), (.mv (.tmp 9)), none⟩, ⟨(some 5), (.mv (.tmp 10)), none⟩]) (.seq (.ops [⟨(some 11), (.mv (.tmp 4)), none⟩, ⟨(some 12), (.call (.func 32) #[(.tmp 11)]), none⟩, ⟨(some 13), (.mv (.tmp 5)), none⟩, ⟨(some 2), (.mv (.tmp 12)), none⟩, ⟨(some 3), (.mv (.tmp 13)), none⟩]) .ret)))⟩
theorem a23_eq : compFunc Tryd.prog [0] 23 = some a23 := by kernel_rfl
def PT23 : List (PC KK GG) := [(pc31), (pc32)]
def PQ23 : List (PP KK GG) := []
def L23 : List Lh := []
def X23 : List Xh := [⟨.r, [(2, .as), (3, .as)], ⟨[(.int .i64), (.int .i64)], [(2, .v (.a (.pu 0))), (3, .v (.a (.pu 1)))], []⟩⟩]
def F23 (k : Nat) : List (ByteArray × Int × Int × Int × Unit) × Unit → Option (Int × Int × Unit) := fun (e : List (ByteArray × Int × Int × Int × Unit) × Unit) =>
  (F31 k (e.fst, ())).bind fun (x : List Int × Int × Unit) =>
    (F32 k (x.fst, ())).bind fun (x_1 : Int × Unit) => some (x_1.fst, x.snd.fst, ())
theorem F23_eq (k : Nat) : funT (K := KK) (G := GG) PT23 TTPvRc PQ23 L23 k 400 a23 [((.sl (.pair .str (.pair (.int .i64) (.pair (.int .i64) (.pair (.int .i64) .unit))))))] [((.int .i64), none), ((.int .i64), none)] X23 = some (F23 k) := by kernel_rfl
def pc23 : PC KK GG := ⟨23, [((.sl (.pair .str (.pair (.int .i64) (.pair (.int .i64) (.pair (.int .i64) .unit))))))], [((.int .i64), none), ((.int .i64), none)], F23, fun k H Z e vs h1 h2 h3 r h4 => fun_ok a23_eq (xo_none (f := 23) (of_decide_eq_true (by kernel_rfl))) GG_keep (of_decide_eq_true (by kernel_rfl)) (F23_eq k) H Z e vs h1 h2 h3 r h4⟩
def a26 : AFunc := ⟨11, [(.tmp 2)], (.seq (.ops [⟨(some 2), (.mv (.const (.int .i64 (0)))), none⟩]) (.seq (.ops [⟨(some 6), (.mv (.tmp 0)), none⟩, ⟨(some 7), (.call (.func 31) #[(.tmp 6)]), none⟩, ⟨(some 5), (.mv (.tmp 7)), none⟩, ⟨(some 8), (.extract (.tmp 5) 0), none⟩, ⟨(some 9), (.extract (.tmp 5) 1), none⟩, ⟨(some 3), (.mv (.tmp 8)), none⟩, ⟨(some 4), (.mv (.tmp 9)), none⟩]) (.seq (.ops [⟨(some 10), (.mv (.tmp 4)), none⟩, ⟨(some 2), (.mv (.tmp 10)), none⟩]) .ret)))⟩
theorem a26_eq : compFunc Tryd.prog [0] 26 = some a26 := by kernel_rfl
def PT26 : List (PC KK GG) := [(pc31)]
def PQ26 : List (PP KK GG) := []
def L26 : List Lh := []
def X26 : List Xh := [⟨.r, [(2, .as)], ⟨[(.int .i64)], [(2, .v (.a (.pu 0)))], []⟩⟩]
def F26 (k : Nat) : List (ByteArray × Int × Int × Int × Unit) × Unit → Option (Int × Unit) := fun (e : List (ByteArray × Int × Int × Int × Unit) × Unit) =>
  (F31 k (e.fst, ())).bind fun (x : List Int × Int × Unit) => some (x.snd.fst, ())
theorem F26_eq (k : Nat) : funT (K := KK) (G := GG) PT26 TTPvRc PQ26 L26 k 400 a26 [((.sl (.pair .str (.pair (.int .i64) (.pair (.int .i64) (.pair (.int .i64) .unit))))))] [((.int .i64), none)] X26 = some (F26 k) := by kernel_rfl
def pc26 : PC KK GG := ⟨26, [((.sl (.pair .str (.pair (.int .i64) (.pair (.int .i64) (.pair (.int .i64) .unit))))))], [((.int .i64), none)], F26, fun k H Z e vs h1 h2 h3 r h4 => fun_ok a26_eq (xo_none (f := 26) (of_decide_eq_true (by kernel_rfl))) GG_keep (of_decide_eq_true (by kernel_rfl)) (F26_eq k) H Z e vs h1 h2 h3 r h4⟩
def a27 : AFunc := ⟨12, [(.tmp 2)], (.seq (.ops [⟨(some 2), (.mv (.const (.int .i64 (0)))), none⟩]) (.seq (.seq (.ops [⟨(some 6), (.mv (.tmp 0)), none⟩, ⟨(some 7), (.call (.func 35) #[(.tmp 6)]), none⟩, ⟨(some 5), (.mv (.tmp 7)), none⟩, ⟨(some 8), (.extract (.tmp 5) 0), none⟩, ⟨(some 9), (.extract (.tmp 5) 1), none⟩, ⟨(some 3), (.mv (.tmp 8)), none⟩, ⟨(some 4), (.mv (.tmp 9)), none⟩]) (.seq (.ops [⟨(some 10), (.mv (.tmp 4)), none⟩, ⟨(some 11), (.un .not (.tmp 10)), none⟩]) (.cond (.tmp 11) (.seq (.ops [⟨(some 2), (.mv (.const (.int .i64 (20)))), none⟩]) .ret) .skip))) (.seq (.ops [⟨(some 2), (.mv (.const (.int .i64 (0)))), none⟩]) .ret)))⟩
theorem a27_eq : compFunc Tryd.prog [0] 27 = some a27 := by kernel_rfl
def PT27 : List (PC KK GG) := [(pc35)]
def PQ27 : List (PP KK GG) := []
def L27 : List Lh := []
def X27 : List Xh := [⟨.r, [(2, .as)], ⟨[(.int .i64)], [(2, .v (.a (.pu 0)))], []⟩⟩]
def F27 (k : Nat) : List (ByteArray × Int × Int × Int × Unit) × Unit → Option (Int × Unit) := fun (e : List (ByteArray × Int × Int × Int × Unit) × Unit) =>
  (F35 k (e.fst, ())).bind fun (x : List Int × Bool × Unit) =>
    if (!x.snd.fst) = true then some ((20 : Int), ()) else some ((0 : Int), ())
theorem F27_eq (k : Nat) : funT (K := KK) (G := GG) PT27 TTPvRc PQ27 L27 k 400 a27 [((.sl (.pair .str (.pair (.int .i64) (.pair (.int .i64) (.pair (.int .i64) .unit))))))] [((.int .i64), none)] X27 = some (F27 k) := by kernel_rfl
def pc27 : PC KK GG := ⟨27, [((.sl (.pair .str (.pair (.int .i64) (.pair (.int .i64) (.pair (.int .i64) .unit))))))], [((.int .i64), none)], F27, fun k H Z e vs h1 h2 h3 r h4 => fun_ok a27_eq (xo_none (f := 27) (of_decide_eq_true (by kernel_rfl))) GG_keep (of_decide_eq_true (by kernel_rfl)) (F27_eq k) H Z e vs h1 h2 h3 r h4⟩
def a28 : AFunc := ⟨26, [(.tmp 4)], (.seq (.ops [⟨(some 4), (.mv (.const (.bool false))), none⟩]) (.seq (.seq (.ops [⟨(some 6), (.mv (.tmp 0)), none⟩, ⟨(some 7), (.lenL (.tmp 6)), none⟩, ⟨(some 8), (.mv (.tmp 1)), none⟩, ⟨(some 9), (.lenL (.tmp 8)), none⟩, ⟨(some 10), (.bin .neq (.tmp 7) (.tmp 9)), none⟩]) (.cond (.tmp 10) (.seq (.ops [⟨(some 4), (.mv (.const (.bool false))), none⟩]) .ret) .skip)) (.seq (.seq (.ops [⟨(some 5), (.mv (.const (.int .i64 (0)))), none⟩]) (.block 0 (.loop (.seq (.seq (.ops [⟨(some 11), (.mv (.tmp 5)), none⟩, ⟨(some 12), (.mv (.tmp 0)), none⟩, ⟨(some 13), (.lenL (.tmp 12)), none⟩, ⟨(some 14), (.bin .lss (.tmp 11) (.tmp 13)), none⟩]) (.cond (.tmp 14) .skip (.exit 0))) (.seq (.block 1 (.seq (.drawn [⟨⟨(some 17), (.mv (.tmp 0)), none⟩, [], false⟩, ⟨⟨(some 18), (.mv (.tmp 5)), none⟩, [], false⟩, ⟨⟨(some 19), (.ixS 1 (.tmp 17) (.tmp 18)), none⟩, [0, 1], false⟩, ⟨⟨(some 20), (.load (.tmp 19)), none⟩, [2, 0, 1], false⟩, ⟨⟨(some 21), (.mv (.tmp 1)), none⟩, [], false⟩, ⟨⟨(some 22), (.mv (.tmp 5)), none⟩, [], false⟩, ⟨⟨(some 23), (.ixS 1 (.tmp 21) (.tmp 22)), none⟩, [4, 5], false⟩, ⟨⟨(some 24), (.load (.tmp 23)), none⟩, [6, 4, 5], false⟩, ⟨⟨(some 25), (.bin .neq (.tmp 20) (.tmp 24)), none⟩, [3, 7, 2, 0, 1, 6, 4, 5], false⟩]) (.cond (.tmp 25) (.seq (.ops [⟨(some 4), (.mv (.const (.bool false))), none⟩]) .ret) .skip))) (.ops [⟨(some 15), (.mv (.tmp 5)), none⟩, ⟨(some 16), (.bin .add (.tmp 15) (.const (.int .i64 (1)))), none⟩, ⟨(some 5), (.mv (.tmp 16)), none⟩])))))) (.seq (.ops [⟨(some 4), (.mv (.const (.bool true))), none⟩]) .ret))))⟩
theorem a28_eq : compFunc Tryd.prog [0] 28 = some a28 := by kernel_rfl
def PT28 : List (PC KK GG) := []
def PQ28 : List (PP KK GG) := []
def L28 : List Lh := [⟨0, [(1, .as), (0, .as), (5, .as)], ⟨[(.int .i64), (.sl (.int .i64)), (.sl (.int .i64))], [(1, .v (.a (.pu 0))), (0, .v (.a (.pu 1))), (5, .v (.a (.pu 2)))], []⟩, [⟨.r, [(4, .as)], ⟨[.bool], [(4, .v (.a (.pu 0)))], []⟩⟩, ⟨.x 0, [], ⟨[], [], []⟩⟩]⟩]
def X28 : List Xh := [⟨.r, [(4, .as)], ⟨[.bool], [(4, .v (.a (.pu 0)))], []⟩⟩]
def F28 (k : Nat) : List Int × List Int × Unit → Option (Bool × Unit) := fun (e : List Int × List Int × Unit) =>
  if ((↑e.fst.length : Int) != (↑e.snd.fst.length : Int)) = true then some (false, ())
  else
    (iter
          (fun (e : Int × List Int × List Int × Unit) =>
            if decide (e.fst < (↑e.snd.fst.length : Int)) = true then
              (atL e.snd.fst e.fst).bind fun (x : Int) =>
                (atL e.snd.snd.fst e.fst).bind fun (x_1 : Int) =>
                  if (x != x_1) = true then some (Sum.inr (Sum.inl (false, ())))
                  else some (Sum.inl (IntKind.i64.wrap (e.fst + (1 : Int)), e.snd.fst, e.snd.snd.fst, ()))
            else some (Sum.inr (Sum.inr (Sum.inl ()))))
          k ((0 : Int), e.fst, e.snd.fst, ())).bind
      (sumE (fun (e : Bool × Unit) => some (e.fst, ())) (sumE (fun (e : Unit) => some (true, ())) emE))
theorem F28_eq (k : Nat) : funT (K := KK) (G := GG) PT28 TTPvRc PQ28 L28 k 400 a28 [((.sl (.int .i64))), ((.sl (.int .i64)))] [(.bool, none)] X28 = some (F28 k) := by kernel_rfl
def pc28 : PC KK GG := ⟨28, [((.sl (.int .i64))), ((.sl (.int .i64)))], [(.bool, none)], F28, fun k H Z e vs h1 h2 h3 r h4 => fun_ok a28_eq (xo_none (f := 28) (of_decide_eq_true (by kernel_rfl))) GG_keep (of_decide_eq_true (by kernel_rfl)) (F28_eq k) H Z e vs h1 h2 h3 r h4⟩
def a47 : AFunc := ⟨89, [(.tmp 6)], (.seq (.ops [⟨(some 6), (.mv (.const (.slice none 0 0))), none⟩]) (.seq (.ops [⟨(some 12), (.mkslice 3 #[(.int .i64 (0))] 1 8 (.const (.int .i64 (8))) (.const (.int .i64 (8)))), none⟩, ⟨(some 7), (.mv (.tmp 12)), none⟩]) (.seq (.ops [⟨(some 13), (.mv (.tmp 0)), none⟩, ⟨(some 14), (.mv (.tmp 2)), none⟩, ⟨(some 15), (.ixS 4 (.tmp 13) (.tmp 14)), none⟩, ⟨(some 16), (.loadA 4 (.tmp 15)), none⟩, ⟨(some 8), (.new 55 [(.string (⟨#[]⟩ : ByteArray)), (.int .i64 (0)), (.int .i64 (0)), (.int .i64 (0))]), none⟩, ⟨none, (.store 4 (.tmp 8) (.tmp 16)), none⟩]) (.seq (.seq (.ops [⟨(some 9), (.mv (.const (.int .i64 (0)))), none⟩]) (.block 0 (.loop (.seq (.seq (.ops [⟨(some 17), (.mv (.tmp 9)), none⟩, ⟨(some 18), (.bin .lss (.tmp 17) (.const (.int .i64 (8)))), none⟩]) (.cond (.tmp 18) .skip (.exit 0))) (.seq (.block 1 (.seq (.ops [⟨(some 10), (.mv (.const (.int .i64 (0)))), none⟩]) (.seq (.block 2 (.seq (.ops [⟨(some 39), (.off (.tmp 8) 0), none⟩, ⟨(some 40), (.load (.tmp 39)), none⟩, ⟨(some 41), (.bin .neq (.tmp 40) (.const (.string (⟨#[]⟩ : ByteArray)))), none⟩, ⟨(some 38), (.mv (.tmp 41)), none⟩]) (.cond (.tmp 38) (.seq (.ops [⟨(some 11), (.mv (.const (.int .i64 (0)))), none⟩]) (.block 3 (.loop (.seq (.seq (.ops [⟨(some 42), (.mv (.tmp 11)), none⟩, ⟨(some 43), (.off (.tmp 8) 0), none⟩, ⟨(some 44), (.load (.tmp 43)), none⟩, ⟨(some 45), (.lenS (.tmp 44)), none⟩, ⟨(some 46), (.bin .lss (.tmp 42) (.tmp 45)), none⟩]) (.cond (.tmp 46) .skip (.exit 3))) (.seq (.block 4 (.seq (.seq (.ops [⟨(some 49), (.off (.tmp 8) 0), none⟩, ⟨(some 50), (.load (.tmp 49)), none⟩, ⟨(some 51), (.mv (.tmp 11)), none⟩, ⟨(some 52), (.ixStr (.tmp 50) (.tmp 51)), none⟩, ⟨(some 53), (.mv (.tmp 9)), none⟩, ⟨(some 54), (.bin .add (.const (.int .i64 (97))) (.tmp 53)), none⟩, ⟨(some 55), (.convI .u8 (.tmp 54)), none⟩, ⟨(some 56), (.bin .eql (.tmp 52) (.tmp 55)), none⟩]) (.cond (.tmp 56) (.ops [⟨(some 57), (.mv (.tmp 10)), none⟩, ⟨(some 58), (.bin .add (.tmp 57) (.const (.int .i64 (1)))), none⟩, ⟨(some 10), (.mv (.tmp 58)), none⟩]) .skip)) (.seq (.ops [⟨(some 59), (.off (.tmp 8) 0), none⟩, ⟨(some 60), (.load (.tmp 59)), none⟩, ⟨(some 61), (.mv (.tmp 11)), none⟩, ⟨(some 62), (.ixStr (.tmp 60) (.tmp 61)), none⟩, ⟨(some 63), (.mv (.tmp 9)), none⟩, ⟨(some 64), (.bin .add (.const (.int .i64 (65))) (.tmp 63)), none⟩, ⟨(some 65), (.convI .u8 (.tmp 64)), none⟩, ⟨(some 66), (.bin .eql (.tmp 62) (.tmp 65)), none⟩]) (.cond (.tmp 66) (.ops [⟨(some 67), (.mv (.tmp 10)), none⟩, ⟨(some 68), (.bin .sub (.tmp 67) (.const (.int .i64 (1)))), none⟩, ⟨(some 10), (.mv (.tmp 68)), none⟩]) .skip)))) (.ops [⟨(some 47), (.mv (.tmp 11)), none⟩, ⟨(some 48), (.bin .add (.tmp 47) (.const (.int .i64 (1)))), none⟩, ⟨(some 11), (.mv (.tmp 48)), none⟩])))))) (.seq (.ops [⟨(some 70), (.off (.tmp 8) 3), none⟩, ⟨(some 71), (.load (.tmp 70)), none⟩, ⟨(some 72), (.bin .gtr (.tmp 71) (.const (.int .i64 (0)))), none⟩, ⟨(some 69), (.mv (.tmp 72)), none⟩]) (.cond (.tmp 69) (.drawn [⟨⟨(some 73), (.off (.tmp 8) 3), none⟩, [], false⟩, ⟨⟨(some 74), (.load (.tmp 73)), none⟩, [0], false⟩, ⟨⟨(some 75), (.mv (.tmp 1)), none⟩, [], false⟩, ⟨⟨(some 76), (.off (.tmp 8) 1), none⟩, [], false⟩, ⟨⟨(some 77), (.load (.tmp 76)), none⟩, [3], false⟩, ⟨⟨(some 78), (.ixS 1 (.tmp 75) (.tmp 77)), none⟩, [2, 4, 3], false⟩, ⟨⟨(some 79), (.load (.tmp 78)), none⟩, [5, 2, 4, 3], false⟩, ⟨⟨(some 80), (.mv (.tmp 9)), none⟩, [], false⟩, ⟨⟨(some 81), (.ixS 1 (.tmp 79) (.tmp 80)), none⟩, [6, 7, 5, 2, 4, 3], false⟩, ⟨⟨(some 82), (.load (.tmp 81)), none⟩, [8, 6, 7, 5, 2, 4, 3], false⟩, ⟨⟨(some 83), (.bin .mul (.tmp 74) (.tmp 82)), none⟩, [1, 9, 0, 8, 6, 7, 5, 2, 4, 3], false⟩, ⟨⟨(some 10), (.mv (.tmp 83)), none⟩, [10, 0, 1, 2, 3, 4, 5, 6, 7, 8, 9], false⟩]) (.drawn [⟨⟨(some 21), (.mv (.tmp 1)), none⟩, [], false⟩, ⟨⟨(some 22), (.off (.tmp 8) 1), none⟩, [], false⟩, ⟨⟨(some 23), (.load (.tmp 22)), none⟩, [1], false⟩, ⟨⟨(some 24), (.ixS 1 (.tmp 21) (.tmp 23)), none⟩, [0, 2, 1], false⟩, ⟨⟨(some 25), (.load (.tmp 24)), none⟩, [3, 0, 2, 1], false⟩, ⟨⟨(some 26), (.mv (.tmp 9)), none⟩, [], false⟩, ⟨⟨(some 27), (.ixS 1 (.tmp 25) (.tmp 26)), none⟩, [4, 5, 3, 0, 2, 1], false⟩, ⟨⟨(some 28), (.load (.tmp 27)), none⟩, [6, 4, 5, 3, 0, 2, 1], false⟩, ⟨⟨(some 29), (.mv (.tmp 1)), none⟩, [], false⟩, ⟨⟨(some 30), (.off (.tmp 8) 2), none⟩, [], false⟩, ⟨⟨(some 31), (.load (.tmp 30)), none⟩, [9], false⟩, ⟨⟨(some 32), (.ixS 1 (.tmp 29) (.tmp 31)), none⟩, [8, 10, 9], false⟩, ⟨⟨(some 33), (.load (.tmp 32)), none⟩, [11, 8, 10, 9], false⟩, ⟨⟨(some 34), (.mv (.tmp 9)), none⟩, [], false⟩, ⟨⟨(some 35), (.ixS 1 (.tmp 33) (.tmp 34)), none⟩, [12, 13, 11, 8, 10, 9], false⟩, ⟨⟨(some 36), (.load (.tmp 35)), none⟩, [14, 12, 13, 11, 8, 10, 9], false⟩, ⟨⟨(some 37), (.bin .add (.tmp 28) (.tmp 36)), none⟩, [7, 15, 6, 4, 5, 3, 0, 2, 1, 14, 12, 13, 11, 8, 10, 9], false⟩, ⟨⟨(some 10), (.mv (.tmp 37)), none⟩, [16, 0, 1, 2, 3, 4, 5, 6, 7, 8, 9, 10, 11, 12, 13, 14, 15], false⟩])))))) (.ops [⟨(some 84), (.mv (.tmp 7)), none⟩, ⟨(some 85), (.mv (.tmp 9)), none⟩, ⟨(some 86), (.mv (.tmp 10)), none⟩, ⟨(some 87), (.ixS 1 (.tmp 84) (.tmp 85)), none⟩, ⟨none, (.store 1 (.tmp 87) (.tmp 86)), none⟩])))) (.ops [⟨(some 19), (.mv (.tmp 9)), none⟩, ⟨(some 20), (.bin .add (.tmp 19) (.const (.int .i64 (1)))), none⟩, ⟨(some 9), (.mv (.tmp 20)), none⟩])))))) (.seq (.ops [⟨(some 88), (.mv (.tmp 7)), none⟩, ⟨(some 6), (.mv (.tmp 88)), none⟩]) .ret)))))⟩
theorem a47_eq : compFunc Tryd.prog [0] 47 = some a47 := by kernel_rfl
def PT47 : List (PC KK GG) := []
def PQ47 : List (PP KK GG) := []
def L47 : List Lh := [⟨1719278, [(7, .as), (8, .as), (1, .as), (9, .as), (10, .as), (11, .as)], ⟨[(.int .i64), (.int .i64), (.int .i64), (.sl (.sl (.int .i64))), (.int .i64), (.int .i64), (.int .i64), .str, (.sl (.int .i64))], [(7, .v (.a (.hd 0))), (8, .v (.a (.bp 1 0))), (1, .v (.a (.pu 5))), (9, .v (.a (.pu 6))), (10, .v (.a (.pu 7))), (11, .v (.a (.pu 8)))], [.sl (.int .i64) 3 0, .bx [(.pu 1), (.pu 2), (.pu 3), (.pu 4)]]⟩, []⟩, ⟨3, [(7, .as), (8, .as), (1, .as), (9, .as), (10, .as), (11, .as)], ⟨[(.int .i64), (.int .i64), (.int .i64), (.sl (.sl (.int .i64))), (.int .i64), (.int .i64), (.int .i64), .str, (.sl (.int .i64))], [(7, .v (.a (.hd 0))), (8, .v (.a (.bp 1 0))), (1, .v (.a (.pu 5))), (9, .v (.a (.pu 6))), (10, .v (.a (.pu 7))), (11, .v (.a (.pu 8)))], [.sl (.int .i64) 3 0, .bx [(.pu 1), (.pu 2), (.pu 3), (.pu 4)]]⟩, [⟨.x 3, [(7, .as), (8, .as), (1, .as), (9, .as), (10, .as)], ⟨[(.int .i64), (.int .i64), (.sl (.sl (.int .i64))), (.int .i64), (.int .i64), (.int .i64), .str, (.sl (.int .i64))], [(7, .v (.a (.hd 0))), (8, .v (.a (.bp 1 0))), (1, .v (.a (.pu 5))), (9, .v (.a (.pu 6))), (10, .v (.a (.pu 7)))], [.sl (.int .i64) 3 0, .bx [(.pu 1), (.pu 2), (.pu 3), (.pu 4)]]⟩⟩]⟩, ⟨1550860, [(7, .as), (8, .as), (1, .as), (9, .as), (10, .as)], ⟨[(.int .i64), (.int .i64), (.sl (.sl (.int .i64))), (.int .i64), (.int .i64), (.int .i64), .str, (.sl (.int .i64))], [(7, .v (.a (.hd 0))), (8, .v (.a (.bp 1 0))), (1, .v (.a (.pu 5))), (9, .v (.a (.pu 6))), (10, .v (.a (.pu 7)))], [.sl (.int .i64) 3 0, .bx [(.pu 1), (.pu 2), (.pu 3), (.pu 4)]]⟩, []⟩, ⟨0, [(7, .as), (8, .as), (1, .as), (9, .as)], ⟨[(.int .i64), (.sl (.sl (.int .i64))), (.int .i64), (.int .i64), (.int .i64), .str, (.sl (.int .i64))], [(7, .v (.a (.hd 0))), (8, .v (.a (.bp 1 0))), (1, .v (.a (.pu 5))), (9, .v (.a (.pu 6)))], [.sl (.int .i64) 3 0, .bx [(.pu 1), (.pu 2), (.pu 3), (.pu 4)]]⟩, [⟨.x 0, [(7, .as)], ⟨[(.sl (.int .i64))], [(7, .v (.a (.hd 0)))], [.sl (.int .i64) 3 0]⟩⟩]⟩]
def X47 : List Xh := [⟨.r, [(6, .own (.int .i64) 3)], ⟨[(.sl (.int .i64))], [(6, .v (.a (.hd 0)))], [.sl (.int .i64) 3 0]⟩⟩]
def F47 (k : Nat) : List (ByteArray × Int × Int × Int × Unit) × List (List Int) × Int × Unit → Option (List Int × Unit) := fun (e : List (ByteArray × Int × Int × Int × Unit) × List (List Int) × Int × Unit) =>
  if
      (0 : Int) ≤ (8 : Int) ∧
        (8 : Int) ≤ (8 : Int) ∧
          (8 : Int) * (↑(8 : Nat) : Int) ≤ (140737488355328 : Int) ∧
            (8 : Int) ≤ (140737488355328 : Int) then
    (atL e.fst e.snd.snd.fst).bind fun (x : ByteArray × Int × Int × Int × Unit) =>
      (iter
            (fun (e : Int × List (List Int) × Int × Int × Int × ByteArray × List Int × Unit) =>
              if decide (e.fst < (8 : Int)) = true then
                (if (!e.snd.snd.snd.snd.snd.fst.toList == (⟨#[]⟩ : ByteArray).toList) = true then
                      (iter
                            (fun
                                (e :
                                  Int × Int × Int × List (List Int) × Int × Int × Int × ByteArray × List Int × Unit) =>
                              if decide (e.fst < (↑e.snd.snd.snd.snd.snd.snd.snd.fst.size : Int)) = true then
                                ((atB e.snd.snd.snd.snd.snd.snd.snd.fst e.fst).bind fun (x : Int) =>
                                      if
                                          (x == IntKind.u8.wrap (IntKind.i64.wrap ((97 : Int) + e.snd.snd.fst))) =
                                            true then
                                        some
                                          (Sum.inl
                                            (e.fst, IntKind.i64.wrap (e.snd.fst + (1 : Int)), e.snd.snd.fst,
                                              e.snd.snd.snd.fst, e.snd.snd.snd.snd.fst, e.snd.snd.snd.snd.snd.fst,
                                              e.snd.snd.snd.snd.snd.snd.fst, e.snd.snd.snd.snd.snd.snd.snd.fst,
                                              e.snd.snd.snd.snd.snd.snd.snd.snd.fst, ()))
                                      else
                                        some
                                          (Sum.inl
                                            (e.fst, e.snd.fst, e.snd.snd.fst, e.snd.snd.snd.fst, e.snd.snd.snd.snd.fst,
                                              e.snd.snd.snd.snd.snd.fst, e.snd.snd.snd.snd.snd.snd.fst,
                                              e.snd.snd.snd.snd.snd.snd.snd.fst, e.snd.snd.snd.snd.snd.snd.snd.snd.fst,
                                              ()))).bind
                                  (sumE
                                    (fun
                                        (e :
                                          Int ×
                                            Int ×
                                              Int × List (List Int) × Int × Int × Int × ByteArray × List Int × Unit) =>
                                      (atB e.snd.snd.snd.snd.snd.snd.snd.fst e.fst).bind fun (x : Int) =>
                                        if
                                            (x == IntKind.u8.wrap (IntKind.i64.wrap ((65 : Int) + e.snd.snd.fst))) =
                                              true then
                                          some
                                            (Sum.inl
                                              (IntKind.i64.wrap (e.fst + (1 : Int)),
                                                IntKind.i64.wrap (e.snd.fst - (1 : Int)), e.snd.snd.fst,
                                                e.snd.snd.snd.fst, e.snd.snd.snd.snd.fst, e.snd.snd.snd.snd.snd.fst,
                                                e.snd.snd.snd.snd.snd.snd.fst, e.snd.snd.snd.snd.snd.snd.snd.fst,
                                                e.snd.snd.snd.snd.snd.snd.snd.snd.fst, ()))
                                        else
                                          some
                                            (Sum.inl
                                              (IntKind.i64.wrap (e.fst + (1 : Int)), e.snd.fst, e.snd.snd.fst,
                                                e.snd.snd.snd.fst, e.snd.snd.snd.snd.fst, e.snd.snd.snd.snd.snd.fst,
                                                e.snd.snd.snd.snd.snd.snd.fst, e.snd.snd.snd.snd.snd.snd.snd.fst,
                                                e.snd.snd.snd.snd.snd.snd.snd.snd.fst, ())))
                                    emE)
                              else
                                some
                                  (Sum.inr
                                    (Sum.inl
                                      (e.snd.fst, e.snd.snd.fst, e.snd.snd.snd.fst, e.snd.snd.snd.snd.fst,
                                        e.snd.snd.snd.snd.snd.fst, e.snd.snd.snd.snd.snd.snd.fst,
                                        e.snd.snd.snd.snd.snd.snd.snd.fst, e.snd.snd.snd.snd.snd.snd.snd.snd.fst, ()))))
                            k
                            ((0 : Int), (0 : Int), e.fst, e.snd.fst, e.snd.snd.fst, e.snd.snd.snd.fst,
                              e.snd.snd.snd.snd.fst, e.snd.snd.snd.snd.snd.fst, e.snd.snd.snd.snd.snd.snd.fst, ())).bind
                        (sumE
                          (fun (e : Int × Int × List (List Int) × Int × Int × Int × ByteArray × List Int × Unit) =>
                            some
                              (Sum.inl
                                (e.fst, e.snd.fst, e.snd.snd.fst, e.snd.snd.snd.fst, e.snd.snd.snd.snd.fst,
                                  e.snd.snd.snd.snd.snd.fst, e.snd.snd.snd.snd.snd.snd.fst,
                                  e.snd.snd.snd.snd.snd.snd.snd.fst, ())))
                          emE)
                    else
                      if decide (e.snd.snd.fst > (0 : Int)) = true then
                        (atL e.snd.fst e.snd.snd.snd.snd.fst).bind fun (x : List Int) =>
                          (atL x e.fst).bind fun (x : Int) =>
                            some
                              (Sum.inl
                                (IntKind.i64.wrap (e.snd.snd.fst * x), e.fst, e.snd.fst, e.snd.snd.fst,
                                  e.snd.snd.snd.fst, e.snd.snd.snd.snd.fst, e.snd.snd.snd.snd.snd.fst,
                                  e.snd.snd.snd.snd.snd.snd.fst, ()))
                      else
                        (atL e.snd.fst e.snd.snd.snd.snd.fst).bind fun (x : List Int) =>
                          (atL x e.fst).bind fun (x : Int) =>
                            (atL e.snd.fst e.snd.snd.snd.fst).bind fun (x_1 : List Int) =>
                              (atL x_1 e.fst).bind fun (x_2 : Int) =>
                                some
                                  (Sum.inl
                                    (IntKind.i64.wrap (x + x_2), e.fst, e.snd.fst, e.snd.snd.fst, e.snd.snd.snd.fst,
                                      e.snd.snd.snd.snd.fst, e.snd.snd.snd.snd.snd.fst, e.snd.snd.snd.snd.snd.snd.fst,
                                      ()))).bind
                  (sumE
                    (fun (e : Int × Int × List (List Int) × Int × Int × Int × ByteArray × List Int × Unit) =>
                      if (0 : Int) ≤ e.snd.fst ∧ e.snd.fst < (↑e.snd.snd.snd.snd.snd.snd.snd.fst.length : Int) then
                        (atL e.snd.snd.snd.snd.snd.snd.snd.fst e.snd.fst).bind fun (x : Int) =>
                          some
                            (Sum.inl
                              (IntKind.i64.wrap (e.snd.fst + (1 : Int)), e.snd.snd.fst, e.snd.snd.snd.fst,
                                e.snd.snd.snd.snd.fst, e.snd.snd.snd.snd.snd.fst, e.snd.snd.snd.snd.snd.snd.fst,
                                e.snd.snd.snd.snd.snd.snd.snd.fst.set e.snd.fst.toNat e.fst, ()))
                      else none)
                    emE)
              else some (Sum.inr (Sum.inl (e.snd.snd.snd.snd.snd.snd.fst, ()))))
            k
            ((0 : Int), e.snd.fst, x.snd.snd.snd.fst, x.snd.snd.fst, x.snd.fst, x.fst,
              List.replicate (Int.toNat (8 : Int)) (0 : Int), ())).bind
        (sumE (fun (e : List Int × Unit) => some (e.fst, ())) emE)
  else none
theorem F47_eq (k : Nat) : funT (K := KK) (G := GG) PT47 TTPvRc PQ47 L47 k 400 a47 [((.sl (.pair .str (.pair (.int .i64) (.pair (.int .i64) (.pair (.int .i64) .unit)))))), ((.sl (.sl (.int .i64)))), ((.int .i64))] [((.sl (.int .i64)), some 3)] X47 = some (F47 k) := by kernel_rfl
def pc47 : PC KK GG := ⟨47, [((.sl (.pair .str (.pair (.int .i64) (.pair (.int .i64) (.pair (.int .i64) .unit)))))), ((.sl (.sl (.int .i64)))), ((.int .i64))], [((.sl (.int .i64)), some 3)], F47, fun k H Z e vs h1 h2 h3 r h4 => fun_ok a47_eq (xo_none (f := 47) (of_decide_eq_true (by kernel_rfl))) GG_keep (of_decide_eq_true (by kernel_rfl)) (F47_eq k) H Z e vs h1 h2 h3 r h4⟩
def a25 : AFunc := ⟨36, [(.tmp 2), (.tmp 3)], (.seq (.ops [⟨(some 2), (.mv (.const (.slice none 0 0))), none⟩, ⟨(some 3), (.mv (.const (.int .i64 (0)))), none⟩]) (.seq (.seq (.ops [⟨(some 7), (.mv (.tmp 0)), none⟩, ⟨(some 8), (.call (.func 27) #[(.tmp 7)]), none⟩, ⟨(some 4), (.mv (.tmp 8)), none⟩]) (.seq (.ops [⟨(some 9), (.mv (.tmp 4)), none⟩, ⟨(some 10), (.bin .neq (.tmp 9) (.const (.int .i64 (0)))), none⟩]) (.cond (.tmp 10) (.seq (.ops [⟨(some 11), (.mv (.tmp 4)), none⟩, ⟨(some 2), (.mv (.const (.slice none 0 0))), none⟩, ⟨(some 3), (.mv (.tmp 11)), none⟩]) .ret) .skip))) (.seq (.ops [⟨(some 12), (.bslice 42 #[(.slice none 0 0)] 1 0 #[]), none⟩, ⟨(some 5), (.mv (.tmp 12)), none⟩]) (.seq (.seq (.ops [⟨(some 6), (.mv (.const (.int .i64 (0)))), none⟩]) (.block 0 (.loop (.seq (.seq (.ops [⟨(some 13), (.mv (.tmp 6)), none⟩, ⟨(some 14), (.mv (.tmp 0)), none⟩, ⟨(some 15), (.lenL (.tmp 14)), none⟩, ⟨(some 16), (.bin .lss (.tmp 13) (.tmp 15)), none⟩]) (.cond (.tmp 16) .skip (.exit 0))) (.seq (.block 1 (.ops [⟨(some 19), (.mv (.tmp 5)), none⟩, ⟨(some 20), (.mv (.tmp 0)), none⟩, ⟨(some 21), (.mv (.tmp 5)), none⟩, ⟨(some 22), (.mv (.tmp 6)), none⟩, ⟨(some 23), (.call (.func 47) #[(.tmp 20), (.tmp 21), (.tmp 22)]), none⟩, ⟨(some 24), (.bslice 42 #[(.slice none 0 0)] 1 1 #[(0, (.tmp 23))]), none⟩, ⟨(some 25), (.append 42 1 24 (.tmp 19) (.tmp 24)), none⟩, ⟨(some 5), (.mv (.tmp 25)), none⟩])) (.ops [⟨(some 17), (.mv (.tmp 6)), none⟩, ⟨(some 18), (.bin .add (.tmp 17) (.const (.int .i64 (1)))), none⟩, ⟨(some 6), (.mv (.tmp 18)), none⟩])))))) (.seq (.seq (.ops [⟨(some 26), (.mv (.tmp 0)), none⟩, ⟨(some 27), (.lenL (.tmp 26)), none⟩, ⟨(some 28), (.bin .eql (.tmp 27) (.const (.int .i64 (0)))), none⟩]) (.cond (.tmp 28) (.seq (.ops [⟨(some 29), (.mkslice 3 #[(.int .i64 (0))] 1 8 (.const (.int .i64 (8))) (.const (.int .i64 (8)))), none⟩, ⟨(some 2), (.mv (.tmp 29)), none⟩, ⟨(some 3), (.mv (.const (.int .i64 (0)))), none⟩]) .ret) .skip)) (.seq (.ops [⟨(some 30), (.mv (.tmp 5)), none⟩, ⟨(some 31), (.mv (.tmp 5)), none⟩, ⟨(some 32), (.lenL (.tmp 31)), none⟩, ⟨(some 33), (.bin .sub (.tmp 32) (.const (.int .i64 (1)))), none⟩, ⟨(some 34), (.ixS 1 (.tmp 30) (.tmp 33)), none⟩, ⟨(some 35), (.load (.tmp 34)), none⟩, ⟨(some 2), (.mv (.tmp 35)), none⟩, ⟨(some 3), (.mv (.const (.int .i64 (0)))), none⟩]) .ret))))))⟩
theorem a25_eq : compFunc Tryd.prog [0] 25 = some a25 := by kernel_rfl
def PT25 : List (PC KK GG) := [pc27, pc47]
def PQ25 : List (PP KK GG) := []
def L25 : List Lh := [⟨0, [(5, .as), (0, .as), (6, .as)], ⟨[(.int .i64), (.sl (.pair .str (.pair (.int .i64) (.pair (.int .i64) (.pair (.int .i64) .unit))))), (.sl (.sl (.int .i64)))], [(5, .v (.a (.hd 0))), (0, .v (.a (.pu 1))), (6, .v (.a (.pu 2)))], [.sl (.sl (.int .i64)) 42 0]⟩, [⟨.x 0, [(5, .as), (0, .as)], ⟨[(.sl (.pair .str (.pair (.int .i64) (.pair (.int .i64) (.pair (.int .i64) .unit))))), (.sl (.sl (.int .i64)))], [(5, .v (.a (.hd 0))), (0, .v (.a (.pu 1)))], [.sl (.sl (.int .i64)) 42 0]⟩⟩]⟩]
def X25 : List Xh := [⟨.r, [(2, .shr (.int .i64)), (3, .as)], ⟨[(.int .i64), (.sl (.int .i64))], [(2, .v (.a (.pu 0))), (3, .v (.a (.pu 1)))], []⟩⟩]
def F25 (k : Nat) : List (ByteArray × Int × Int × Int × Unit) × Unit → Option (List Int × Int × Unit) := fun (e : List (ByteArray × Int × Int × Int × Unit) × Unit) =>
  (F27 k (e.fst, ())).bind fun (x : Int × Unit) =>
    if (x.fst != (0 : Int)) = true then some ([], x.fst, ())
    else
      (iter
            (fun (e : Int × List (ByteArray × Int × Int × Int × Unit) × List (List Int) × Unit) =>
              if decide (e.fst < (↑e.snd.fst.length : Int)) = true then
                (F47 k (e.snd.fst, e.snd.snd.fst, e.fst, ())).bind fun (x : List Int × Unit) =>
                  if
                      bigB (e.snd.snd.fst.length + ((List.replicate (1 : Nat) []).set (0 : Nat) x.fst).length)
                          (24 : Nat) =
                        true then
                    none
                  else
                    some
                      (Sum.inl
                        (IntKind.i64.wrap (e.fst + (1 : Int)), e.snd.fst,
                          e.snd.snd.fst ++ (List.replicate (1 : Nat) []).set (0 : Nat) x.fst, ()))
              else some (Sum.inr (Sum.inl (e.snd.fst, e.snd.snd.fst, ()))))
            k ((0 : Int), e.fst, List.replicate (0 : Nat) [], ())).bind
        (sumE
          (fun (e : List (ByteArray × Int × Int × Int × Unit) × List (List Int) × Unit) =>
            if ((↑e.fst.length : Int) == (0 : Int)) = true then
              if
                  (0 : Int) ≤ (8 : Int) ∧
                    (8 : Int) ≤ (8 : Int) ∧
                      (8 : Int) * (↑(8 : Nat) : Int) ≤ (140737488355328 : Int) ∧
                        (8 : Int) ≤ (140737488355328 : Int) then
                some (List.replicate (Int.toNat (8 : Int)) (0 : Int), (0 : Int), ())
              else none
            else
              if
                  (0 : Int) ≤ IntKind.i64.wrap ((↑e.snd.fst.length : Int) - (1 : Int)) ∧
                    IntKind.i64.wrap ((↑e.snd.fst.length : Int) - (1 : Int)) < (↑e.snd.fst.length : Int) then
                ((atL e.snd.fst (IntKind.i64.wrap ((↑e.snd.fst.length : Int) - (1 : Int)))).bind fun (y : List Int) =>
                      some y).bind
                  fun (x : List Int) => some (x, (0 : Int), ())
              else none)
          emE)
theorem F25_eq (k : Nat) : funT (K := KK) (G := GG) PT25 TTPvRc PQ25 L25 k 400 a25 [((.sl (.pair .str (.pair (.int .i64) (.pair (.int .i64) (.pair (.int .i64) .unit))))))] [((.sl (.int .i64)), none), ((.int .i64), none)] X25 = some (F25 k) := by kernel_rfl
def pc25 : PC KK GG := ⟨25, [((.sl (.pair .str (.pair (.int .i64) (.pair (.int .i64) (.pair (.int .i64) .unit))))))], [((.sl (.int .i64)), none), ((.int .i64), none)], F25, fun k H Z e vs h1 h2 h3 r h4 => fun_ok a25_eq (xo_none (f := 25) (of_decide_eq_true (by kernel_rfl))) GG_keep (of_decide_eq_true (by kernel_rfl)) (F25_eq k) H Z e vs h1 h2 h3 r h4⟩
def a7 : AFunc := ⟨59, [(.tmp 2)], (.seq (.ops [⟨(some 2), (.mv (.const (.bool false))), none⟩]) (.seq (.ops [⟨(some 12), (.mv (.tmp 0)), none⟩, ⟨(some 13), (.call (.func 23) #[(.tmp 12)]), none⟩, ⟨(some 11), (.mv (.tmp 13)), none⟩, ⟨(some 14), (.extract (.tmp 11) 0), none⟩, ⟨(some 15), (.extract (.tmp 11) 1), none⟩, ⟨(some 3), (.mv (.tmp 14)), none⟩, ⟨(some 4), (.mv (.tmp 15)), none⟩]) (.seq (.ops [⟨(some 17), (.mv (.tmp 0)), none⟩, ⟨(some 18), (.call (.func 12) #[(.tmp 17)]), none⟩, ⟨(some 16), (.mv (.tmp 18)), none⟩, ⟨(some 19), (.extract (.tmp 16) 0), none⟩, ⟨(some 20), (.extract (.tmp 16) 1), none⟩, ⟨(some 5), (.mv (.tmp 19)), none⟩, ⟨(some 6), (.mv (.tmp 20)), none⟩]) (.seq (.ops [⟨(some 22), (.mv (.tmp 0)), none⟩, ⟨(some 23), (.call (.func 24) #[(.tmp 22)]), none⟩, ⟨(some 21), (.mv (.tmp 23)), none⟩, ⟨(some 24), (.extract (.tmp 21) 0), none⟩, ⟨(some 25), (.extract (.tmp 21) 1), none⟩, ⟨(some 7), (.mv (.tmp 24)), none⟩, ⟨(some 8), (.mv (.tmp 25)), none⟩]) (.seq (.ops [⟨(some 27), (.mv (.tmp 0)), none⟩, ⟨(some 28), (.call (.func 25) #[(.tmp 27)]), none⟩, ⟨(some 26), (.mv (.tmp 28)), none⟩, ⟨(some 29), (.extract (.tmp 26) 0), none⟩, ⟨(some 30), (.extract (.tmp 26) 1), none⟩, ⟨(some 9), (.mv (.tmp 29)), none⟩, ⟨(some 10), (.mv (.tmp 30)), none⟩]) (.seq (.ops [⟨(some 31), (.call (.func 13) #[]), none⟩, ⟨(some 32), (.mv (.tmp 31)), none⟩, ⟨(some 33), (.mv (.tmp 0)), (some ((some 32), true))⟩, ⟨(some 34), (.call (.func 26) #[(.tmp 33)]), (some ((some 32), true))⟩, ⟨(some 35), (.mv (.tmp 0)), (some ((some 32), true))⟩, ⟨(some 36), (.call (.func 27) #[(.tmp 35)]), (some ((some 32), true))⟩, ⟨(some 37), (.bin .eql (.tmp 34) (.tmp 36)), (some ((some 32), true))⟩, ⟨(some 38), (.pick (.tmp 32) (.tmp 37) (.const (.bool false))), none⟩, ⟨(some 39), (.mv (.tmp 38)), none⟩, ⟨(some 40), (.mv (.tmp 3)), (some ((some 39), true))⟩, ⟨(some 41), (.mv (.tmp 5)), (some ((some 39), true))⟩, ⟨(some 42), (.bin .eql (.tmp 40) (.tmp 41)), (some ((some 39), true))⟩, ⟨(some 43), (.pick (.tmp 39) (.tmp 42) (.const (.bool false))), none⟩, ⟨(some 44), (.mv (.tmp 43)), none⟩, ⟨(some 45), (.mv (.tmp 4)), (some ((some 44), true))⟩, ⟨(some 46), (.mv (.tmp 6)), (some ((some 44), true))⟩, ⟨(some 47), (.bin .eql (.tmp 45) (.tmp 46)), (some ((some 44), true))⟩, ⟨(some 48), (.pick (.tmp 44) (.tmp 47) (.const (.bool false))), none⟩, ⟨(some 49), (.mv (.tmp 48)), none⟩, ⟨(some 50), (.mv (.tmp 8)), (some ((some 49), true))⟩, ⟨(some 51), (.mv (.tmp 10)), (some ((some 49), true))⟩, ⟨(some 52), (.bin .eql (.tmp 50) (.tmp 51)), (some ((some 49), true))⟩, ⟨(some 53), (.pick (.tmp 49) (.tmp 52) (.const (.bool false))), none⟩, ⟨(some 54), (.mv (.tmp 53)), none⟩, ⟨(some 55), (.mv (.tmp 7)), (some ((some 54), true))⟩, ⟨(some 56), (.mv (.tmp 9)), (some ((some 54), true))⟩, ⟨(some 57), (.call (.func 28) #[(.tmp 55), (.tmp 56)]), (some ((some 54), true))⟩, ⟨(some 58), (.pick (.tmp 54) (.tmp 57) (.const (.bool false))), none⟩, ⟨(some 2), (.mv (.tmp 58)), none⟩]) .ret))))))⟩
theorem a7_eq : compFunc Tryd.prog [0] 7 = some a7 := by kernel_rfl
def PT7 : List (PC KK GG) := [pc23, pc26, pc27, pc28, pc25, (pc13), (pc12), ((pc24))]
def PQ7 : List (PP KK GG) := []
def L7 : List Lh := []
def X7 : List Xh := [⟨.r, [(2, .as)], ⟨[.bool], [(2, .v (.a (.pu 0)))], []⟩⟩]
def F7 (k : Nat) : List (ByteArray × Int × Int × Int × Unit) × Unit → Option (Bool × Unit) := fun (e : List (ByteArray × Int × Int × Int × Unit) × Unit) =>
  (F23 k (e.fst, ())).bind fun (x : Int × Int × Unit) =>
    (F12 k (e.fst, ())).bind fun (x_1 : Int × Int × Unit) =>
      (F24 k (e.fst, ())).bind fun (x_2 : List Int × Int × Unit) =>
        (F25 k (e.fst, ())).bind fun (x_3 : List Int × Int × Unit) =>
          (F13 k ()).bind fun (x_4 : Bool × Unit) =>
            if x_4.fst = true then
              (F26 k (e.fst, ())).bind fun (x_5 : Int × Unit) =>
                (F27 k (e.fst, ())).bind fun (x_6 : Int × Unit) =>
                  if (x_5.fst == x_6.fst) = true then
                    if (x.fst == x_1.fst) = true then
                      if (x.snd.fst == x_1.snd.fst) = true then
                        if (x_2.snd.fst == x_3.snd.fst) = true then
                          (F28 k (x_2.fst, x_3.fst, ())).bind fun (x : Bool × Unit) => some (x.fst, ())
                        else some (false, ())
                      else some (false, ())
                    else some (false, ())
                  else some (false, ())
            else some (false, ())
theorem F7_eq (k : Nat) : funT (K := KK) (G := GG) PT7 TTPvRc PQ7 L7 k 400 a7 [((.sl (.pair .str (.pair (.int .i64) (.pair (.int .i64) (.pair (.int .i64) .unit))))))] [(.bool, none)] X7 = some (F7 k) := by kernel_rfl
def pc7 : PC KK GG := ⟨7, [((.sl (.pair .str (.pair (.int .i64) (.pair (.int .i64) (.pair (.int .i64) .unit))))))], [(.bool, none)], F7, fun k H Z e vs h1 h2 h3 r h4 => fun_ok a7_eq (xo_none (f := 7) (of_decide_eq_true (by kernel_rfl))) GG_keep (of_decide_eq_true (by kernel_rfl)) (F7_eq k) H Z e vs h1 h2 h3 r h4⟩
end Go.Proofs.YtehbekgmemebjaaDoorEv
