import Derived.Test.YtbjdbpkdkfkpeaaDoorPvN
import Derived.Test.YtbjdbpkdkfkpeaaDoorProg
import Derived.Test.YtbjdbpkdkfkpeaaDoorStHand
namespace Go.Proofs.YtbjdbpkdkfkpeaaDoorEv
open Go
set_option linter.unusedVariables false
set_option linter.unusedSimpArgs false
set_option maxRecDepth 100000
def TTPvAa : Nat → Option Ty
  | 3 => (some (.int .i64))
  | 66 => (some (.arr 8 (.int .i64)))
  | _ => none
def a23 : AFunc := ⟨26, [(.tmp 4)], (.seq (.ops [⟨(some 4), (.mv (.const (.bool false))), none⟩]) (.seq (.seq (.ops [⟨(some 6), (.mv (.tmp 0)), none⟩, ⟨(some 7), (.lenL (.tmp 6)), none⟩, ⟨(some 8), (.mv (.tmp 1)), none⟩, ⟨(some 9), (.lenL (.tmp 8)), none⟩, ⟨(some 10), (.bin .neq (.tmp 7) (.tmp 9)), none⟩]) (.cond (.tmp 10) (.seq (.ops [⟨(some 4), (.mv (.const (.bool false))), none⟩]) .ret) .skip)) (.seq (.seq (.ops [⟨(some 5), (.mv (.const (.int .i64 (0)))), none⟩]) (.block 0 (.loop (.seq (.seq (.ops [⟨(some 11), (.mv (.tmp 5)), none⟩, ⟨(some 12), (.mv (.tmp 0)), none⟩, ⟨(some 13), (.lenL (.tmp 12)), none⟩, ⟨(some 14), (.bin .lss (.tmp 11) (.tmp 13)), none⟩]) (.cond (.tmp 14) .skip (.exit 0))) (.seq (.block 1 (.seq (.drawn [⟨⟨(some 17), (.mv (.tmp 0)), none⟩, ⟨0⟩, false⟩, ⟨⟨(some 18), (.mv (.tmp 5)), none⟩, ⟨0⟩, false⟩, ⟨⟨(some 19), (.ixS 1 (.tmp 17) (.tmp 18)), none⟩, ⟨3⟩, false⟩, ⟨⟨(some 20), (.load (.tmp 19)), none⟩, ⟨7⟩, false⟩, ⟨⟨(some 21), (.mv (.tmp 1)), none⟩, ⟨0⟩, false⟩, ⟨⟨(some 22), (.mv (.tmp 5)), none⟩, ⟨0⟩, false⟩, ⟨⟨(some 23), (.ixS 1 (.tmp 21) (.tmp 22)), none⟩, ⟨48⟩, false⟩, ⟨⟨(some 24), (.load (.tmp 23)), none⟩, ⟨112⟩, false⟩, ⟨⟨(some 25), (.bin .neq (.tmp 20) (.tmp 24)), none⟩, ⟨255⟩, false⟩]) (.cond (.tmp 25) (.seq (.ops [⟨(some 4), (.mv (.const (.bool false))), none⟩]) .ret) .skip))) (.ops [⟨(some 15), (.mv (.tmp 5)), none⟩, ⟨(some 16), (.bin .add (.tmp 15) (.const (.int .i64 (1)))), none⟩, ⟨(some 5), (.mv (.tmp 16)), none⟩])))))) (.seq (.ops [⟨(some 4), (.mv (.const (.bool true))), none⟩]) .ret))))⟩
theorem a23_eq : compFunc Tryd.prog [0] 23 = some a23 := by kernel_rfl
def PT23 : List (PC KK GG) := []
def PQ23 : List (PP KK GG) := []
def L23 : List Lh := [⟨0, [(1, .as), (0, .as), (5, .as)], ⟨[(.int .i64), (.sl (.int .i64)), (.sl (.int .i64))], [(1, .v (.a (.pu 0))), (0, .v (.a (.pu 1))), (5, .v (.a (.pu 2)))], []⟩, [⟨.r, [(4, .as)], ⟨[.bool], [(4, .v (.a (.pu 0)))], []⟩⟩, ⟨.x 0, [], ⟨[], [], []⟩⟩]⟩]
def X23 : List Xh := [⟨.r, [(4, .as)], ⟨[.bool], [(4, .v (.a (.pu 0)))], []⟩⟩]
def F23 (k : Nat) : List Int × List Int × Unit → Option (Bool × Unit) := fun (e : List Int × List Int × Unit) =>
  if ((↑e.fst.length : Int) != (↑e.snd.fst.length : Int)) = true then some (false, ())
  else
    (iter
          (fun (e : Int × List Int × List Int × Unit) =>
            if decide (e.fst < (↑e.snd.fst.length : Int)) = true then
              (atL e.snd.fst e.fst).bind fun (x : Int) =>
                (atL e.snd.snd.fst e.fst).bind fun (x_1 : Int) =>
                  if (x != x_1) = true then some (Sum.inr (Sum.inl (false, ())))
                  else some (Sum.inl (IntKind.i64.wrap (e.fst + (1 : Int)), e.snd.fst, e.snd.snd.fst, ()))
            else some (Sum.inr (Sum.inr (Sum.inl ()))))
          k ((0 : Int), e.fst, e.snd.fst, ())).bind
      (sumE (fun (e : Bool × Unit) => some (e.fst, ())) (sumE (fun (e : Unit) => some (true, ())) emE))
theorem F23_eq (k : Nat) : funT (K := KK) (G := GG) PT23 TTPvAa PQ23 L23 k 400 a23 [((.sl (.int .i64))), ((.sl (.int .i64)))] [(.bool, none)] X23 = some (F23 k) := by kernel_rfl
def pc23 : PC KK GG := ⟨23, [((.sl (.int .i64))), ((.sl (.int .i64)))], [(.bool, none)], F23, fun k H Z e vs h1 h2 h3 r h4 => fun_ok a23_eq (fun a H => xo_none 23 a H (of_decide_eq_true (by kernel_rfl))) GG_keep (of_decide_eq_true (by kernel_rfl)) (F23_eq k) H Z e vs h1 h2 h3 r h4⟩
def a24 : AFunc := ⟨47, [(.tmp 4)], (.seq (.ops [⟨(some 4), (.mv (.const (.bool false))), none⟩]) (.seq (.seq (.ops [⟨(some 5), (.mv (.const (.int .i64 (0)))), none⟩]) (.block 0 (.loop (.seq (.seq (.ops [⟨(some 7), (.mv (.tmp 5)), none⟩, ⟨(some 8), (.mv (.tmp 1)), none⟩, ⟨(some 9), (.lenS (.tmp 8)), none⟩, ⟨(some 10), (.bin .lss (.tmp 7) (.tmp 9)), none⟩]) (.cond (.tmp 10) .skip (.exit 0))) (.seq (.block 1 (.seq (.ops [⟨(some 13), (.mv (.tmp 1)), none⟩, ⟨(some 14), (.mv (.tmp 5)), none⟩, ⟨(some 15), (.ixStr (.tmp 13) (.tmp 14)), none⟩, ⟨(some 16), (.bin .or (.tmp 15) (.const (.int .u8 (32)))), none⟩, ⟨(some 17), (.convI .i64 (.tmp 16)), none⟩, ⟨(some 18), (.bin .sub (.tmp 17) (.const (.int .i64 (97)))), none⟩, ⟨(some 6), (.mv (.tmp 18)), none⟩]) (.seq (.ops [⟨(some 19), (.mv (.tmp 6)), none⟩, ⟨(some 20), (.bin .lss (.tmp 19) (.const (.int .i64 (0)))), none⟩, ⟨(some 21), (.mv (.tmp 20)), none⟩, ⟨(some 22), (.mv (.tmp 6)), (some ((some 21), false))⟩, ⟨(some 23), (.mv (.tmp 0)), (some ((some 21), false))⟩, ⟨(some 24), (.bin .geq (.tmp 22) (.tmp 23)), (some ((some 21), false))⟩, ⟨(some 25), (.pick (.tmp 21) (.const (.bool true)) (.tmp 24)), none⟩, ⟨(some 26), (.mv (.tmp 25)), none⟩, ⟨(some 27), (.mv (.tmp 1)), (some ((some 26), false))⟩, ⟨(some 28), (.mv (.tmp 5)), (some ((some 26), false))⟩, ⟨(some 29), (.ixStr (.tmp 27) (.tmp 28)), (some ((some 26), false))⟩, ⟨(some 30), (.mv (.tmp 6)), (some ((some 26), false))⟩, ⟨(some 31), (.bin .add (.const (.int .i64 (97))) (.tmp 30)), (some ((some 26), false))⟩, ⟨(some 32), (.convI .u8 (.tmp 31)), (some ((some 26), false))⟩, ⟨(some 33), (.bin .neq (.tmp 29) (.tmp 32)), (some ((some 26), false))⟩, ⟨(some 34), (.mv (.tmp 33)), (some ((some 26), false))⟩, ⟨(some 35), (.mv (.tmp 1)), (some ((some 34), true))⟩, ⟨(some 36), (.mv (.tmp 5)), (some ((some 34), true))⟩, ⟨(some 37), (.ixStr (.tmp 35) (.tmp 36)), (some ((some 34), true))⟩, ⟨(some 38), (.mv (.tmp 6)), (some ((some 34), true))⟩, ⟨(some 39), (.bin .add (.const (.int .i64 (65))) (.tmp 38)), (some ((some 34), true))⟩, ⟨(some 40), (.convI .u8 (.tmp 39)), (some ((some 34), true))⟩, ⟨(some 41), (.bin .neq (.tmp 37) (.tmp 40)), (some ((some 34), true))⟩, ⟨(some 42), (.pick (.tmp 34) (.tmp 41) (.const (.bool false))), (some ((some 26), false))⟩, ⟨(some 43), (.pick (.tmp 26) (.const (.bool true)) (.tmp 42)), none⟩]) (.cond (.tmp 43) (.seq (.ops [⟨(some 4), (.mv (.const (.bool false))), none⟩]) .ret) .skip)))) (.ops [⟨(some 11), (.mv (.tmp 5)), none⟩, ⟨(some 12), (.bin .add (.tmp 11) (.const (.int .i64 (1)))), none⟩, ⟨(some 5), (.mv (.tmp 12)), none⟩])))))) (.seq (.ops [⟨(some 44), (.mv (.tmp 1)), none⟩, ⟨(some 45), (.lenS (.tmp 44)), none⟩, ⟨(some 46), (.bin .leq (.tmp 45) (.const (.int .i64 (100000)))), none⟩, ⟨(some 4), (.mv (.tmp 46)), none⟩]) .ret)))⟩
theorem a24_eq : compFunc Tryd.prog [0] 24 = some a24 := by kernel_rfl
def PT24 : List (PC KK GG) := []
def PQ24 : List (PP KK GG) := []
def L24 : List Lh := [⟨0, [(1, .as), (0, .as), (5, .as)], ⟨[(.int .i64), (.int .i64), .str], [(1, .v (.a (.pu 0))), (0, .v (.a (.pu 1))), (5, .v (.a (.pu 2)))], []⟩, [⟨.r, [(4, .as)], ⟨[.bool], [(4, .v (.a (.pu 0)))], []⟩⟩, ⟨.x 0, [(1, .as)], ⟨[.str], [(1, .v (.a (.pu 0)))], []⟩⟩]⟩]
def X24 : List Xh := [⟨.r, [(4, .as)], ⟨[.bool], [(4, .v (.a (.pu 0)))], []⟩⟩]
def F24 (k : Nat) : Int × ByteArray × Unit → Option (Bool × Unit) := fun (e : Int × ByteArray × Unit) =>
  (iter
        (fun (e : Int × Int × ByteArray × Unit) =>
          if decide (e.fst < (↑e.snd.snd.fst.size : Int)) = true then
            (atB e.snd.snd.fst e.fst).bind fun (x : Int) =>
              if
                  decide
                      (IntKind.i64.wrap
                          (IntKind.i64.wrap
                              (IntKind.u8.wrap
                                (↑(BitVec.ofInt IntKind.u8.bits x ||| BitVec.ofInt IntKind.u8.bits (32 : Int)).toNat :
                                  Int)) -
                            (97 : Int)) <
                        (0 : Int)) =
                    true then
                some (Sum.inr (Sum.inl (false, ())))
              else
                if
                    decide
                        (IntKind.i64.wrap
                            (IntKind.i64.wrap
                                (IntKind.u8.wrap
                                  (↑(BitVec.ofInt IntKind.u8.bits x ||| BitVec.ofInt IntKind.u8.bits (32 : Int)).toNat :
                                    Int)) -
                              (97 : Int)) ≥
                          e.snd.fst) =
                      true then
                  some (Sum.inr (Sum.inl (false, ())))
                else
                  (atB e.snd.snd.fst e.fst).bind fun (x_1 : Int) =>
                    if
                        (x_1 !=
                            IntKind.u8.wrap
                              (IntKind.i64.wrap
                                ((97 : Int) +
                                  IntKind.i64.wrap
                                    (IntKind.i64.wrap
                                        (IntKind.u8.wrap
                                          (↑(BitVec.ofInt IntKind.u8.bits x |||
                                                  BitVec.ofInt IntKind.u8.bits (32 : Int)).toNat :
                                            Int)) -
                                      (97 : Int))))) =
                          true then
                      (atB e.snd.snd.fst e.fst).bind fun (x_2 : Int) =>
                        if
                            (x_2 !=
                                IntKind.u8.wrap
                                  (IntKind.i64.wrap
                                    ((65 : Int) +
                                      IntKind.i64.wrap
                                        (IntKind.i64.wrap
                                            (IntKind.u8.wrap
                                              (↑(BitVec.ofInt IntKind.u8.bits x |||
                                                      BitVec.ofInt IntKind.u8.bits (32 : Int)).toNat :
                                                Int)) -
                                          (97 : Int))))) =
                              true then
                          some (Sum.inr (Sum.inl (false, ())))
                        else some (Sum.inl (IntKind.i64.wrap (e.fst + (1 : Int)), e.snd.fst, e.snd.snd.fst, ()))
                    else some (Sum.inl (IntKind.i64.wrap (e.fst + (1 : Int)), e.snd.fst, e.snd.snd.fst, ()))
          else some (Sum.inr (Sum.inr (Sum.inl (e.snd.snd.fst, ())))))
        k ((0 : Int), e.fst, e.snd.fst, ())).bind
    (sumE (fun (e : Bool × Unit) => some (e.fst, ()))
      (sumE (fun (e : ByteArray × Unit) => some (decide ((↑e.fst.size : Int) ≤ (100000 : Int)), ())) emE))
theorem F24_eq (k : Nat) : funT (K := KK) (G := GG) PT24 TTPvAa PQ24 L24 k 400 a24 [((.int .i64)), .str] [(.bool, none)] X24 = some (F24 k) := by kernel_rfl
def pc24 : PC KK GG := ⟨24, [((.int .i64)), .str], [(.bool, none)], F24, fun k H Z e vs h1 h2 h3 r h4 => fun_ok a24_eq (fun a H => xo_none 24 a H (of_decide_eq_true (by kernel_rfl))) GG_keep (of_decide_eq_true (by kernel_rfl)) (F24_eq k) H Z e vs h1 h2 h3 r h4⟩
def a28 : AFunc := ⟨39, [(.tmp 4)], (.seq (.ops [⟨(some 4), (.mv (.const (.slice none 0 0))), none⟩]) (.seq (.ops [⟨(some 8), (.mv (.tmp 0)), none⟩, ⟨(some 9), (.mkslice 3 #[(.int .i64 (0))] 1 8 (.tmp 8) (.tmp 8)), none⟩, ⟨(some 5), (.mv (.tmp 9)), none⟩]) (.seq (.seq (.ops [⟨(some 6), (.mv (.const (.int .i64 (0)))), none⟩]) (.block 0 (.loop (.seq (.seq (.ops [⟨(some 10), (.mv (.tmp 6)), none⟩, ⟨(some 11), (.mv (.tmp 1)), none⟩, ⟨(some 12), (.lenS (.tmp 11)), none⟩, ⟨(some 13), (.bin .lss (.tmp 10) (.tmp 12)), none⟩]) (.cond (.tmp 13) .skip (.exit 0))) (.seq (.block 1 (.seq (.ops [⟨(some 16), (.mv (.tmp 1)), none⟩, ⟨(some 17), (.mv (.tmp 6)), none⟩, ⟨(some 18), (.ixStr (.tmp 16) (.tmp 17)), none⟩, ⟨(some 19), (.bin .or (.tmp 18) (.const (.int .u8 (32)))), none⟩, ⟨(some 20), (.convI .i64 (.tmp 19)), none⟩, ⟨(some 21), (.bin .sub (.tmp 20) (.const (.int .i64 (97)))), none⟩, ⟨(some 7), (.mv (.tmp 21)), none⟩]) (.seq (.ops [⟨(some 22), (.mv (.tmp 1)), none⟩, ⟨(some 23), (.mv (.tmp 6)), none⟩, ⟨(some 24), (.ixStr (.tmp 22) (.tmp 23)), none⟩, ⟨(some 25), (.bin .geq (.tmp 24) (.const (.int .u8 (97)))), none⟩]) (.cond (.tmp 25) (.ops [⟨(some 26), (.mv (.tmp 5)), none⟩, ⟨(some 27), (.mv (.tmp 7)), none⟩, ⟨(some 28), (.ixS 1 (.tmp 26) (.tmp 27)), none⟩, ⟨(some 29), (.load (.tmp 28)), none⟩, ⟨(some 30), (.bin .add (.tmp 29) (.const (.int .i64 (1)))), none⟩, ⟨(some 31), (.ixS 1 (.tmp 26) (.tmp 27)), none⟩, ⟨none, (.store 1 (.tmp 31) (.tmp 30)), none⟩]) (.ops [⟨(some 32), (.mv (.tmp 5)), none⟩, ⟨(some 33), (.mv (.tmp 7)), none⟩, ⟨(some 34), (.ixS 1 (.tmp 32) (.tmp 33)), none⟩, ⟨(some 35), (.load (.tmp 34)), none⟩, ⟨(some 36), (.bin .sub (.tmp 35) (.const (.int .i64 (1)))), none⟩, ⟨(some 37), (.ixS 1 (.tmp 32) (.tmp 33)), none⟩, ⟨none, (.store 1 (.tmp 37) (.tmp 36)), none⟩]))))) (.ops [⟨(some 14), (.mv (.tmp 6)), none⟩, ⟨(some 15), (.bin .add (.tmp 14) (.const (.int .i64 (1)))), none⟩, ⟨(some 6), (.mv (.tmp 15)), none⟩])))))) (.seq (.ops [⟨(some 38), (.mv (.tmp 5)), none⟩, ⟨(some 4), (.mv (.tmp 38)), none⟩]) .ret))))⟩
theorem a28_eq : compFunc Tryd.prog [0] 28 = some a28 := by kernel_rfl
def PT28 : List (PC KK GG) := []
def PQ28 : List (PP KK GG) := []
def L28 : List Lh := [⟨0, [(5, .as), (1, .as), (6, .as)], ⟨[(.int .i64), .str, (.sl (.int .i64))], [(5, .v (.a (.hd 0))), (1, .v (.a (.pu 1))), (6, .v (.a (.pu 2)))], [.sl (.int .i64) 3 0]⟩, [⟨.x 0, [(5, .as)], ⟨[(.sl (.int .i64))], [(5, .v (.a (.hd 0)))], [.sl (.int .i64) 3 0]⟩⟩]⟩]
def X28 : List Xh := [⟨.r, [(4, .own (.int .i64) 3)], ⟨[(.sl (.int .i64))], [(4, .v (.a (.hd 0)))], [.sl (.int .i64) 3 0]⟩⟩]
def F28 (k : Nat) : Int × ByteArray × Unit → Option (List Int × Unit) := fun (e : Int × ByteArray × Unit) =>
  if
      (0 : Int) ≤ e.fst ∧
        e.fst ≤ e.fst ∧
          e.fst * (↑(8 : Nat) : Int) ≤ (140737488355328 : Int) ∧
            e.fst ≤ (140737488355328 : Int) then
    (iter
          (fun (e : Int × ByteArray × List Int × Unit) =>
            if decide (e.fst < (↑e.snd.fst.size : Int)) = true then
              (atB e.snd.fst e.fst).bind fun (x : Int) =>
                (atB e.snd.fst e.fst).bind fun (x_1 : Int) =>
                  if decide (x_1 ≥ (97 : Int)) = true then
                    if
                        (0 : Int) ≤
                            IntKind.i64.wrap
                              (IntKind.i64.wrap
                                  (IntKind.u8.wrap
                                    (↑(BitVec.ofInt IntKind.u8.bits x |||
                                            BitVec.ofInt IntKind.u8.bits (32 : Int)).toNat :
                                      Int)) -
                                (97 : Int)) ∧
                          IntKind.i64.wrap
                              (IntKind.i64.wrap
                                  (IntKind.u8.wrap
                                    (↑(BitVec.ofInt IntKind.u8.bits x |||
                                            BitVec.ofInt IntKind.u8.bits (32 : Int)).toNat :
                                      Int)) -
                                (97 : Int)) <
                            (↑e.snd.snd.fst.length : Int) then
                      ((atL e.snd.snd.fst
                                (IntKind.i64.wrap
                                  (IntKind.i64.wrap
                                      (IntKind.u8.wrap
                                        (↑(BitVec.ofInt IntKind.u8.bits x |||
                                                BitVec.ofInt IntKind.u8.bits (32 : Int)).toNat :
                                          Int)) -
                                    (97 : Int)))).bind
                            fun (y : Int) => some y).bind
                        fun (x_2 : Int) =>
                        if
                            (0 : Int) ≤
                                IntKind.i64.wrap
                                  (IntKind.i64.wrap
                                      (IntKind.u8.wrap
                                        (↑(BitVec.ofInt IntKind.u8.bits x |||
                                                BitVec.ofInt IntKind.u8.bits (32 : Int)).toNat :
                                          Int)) -
                                    (97 : Int)) ∧
                              IntKind.i64.wrap
                                  (IntKind.i64.wrap
                                      (IntKind.u8.wrap
                                        (↑(BitVec.ofInt IntKind.u8.bits x |||
                                                BitVec.ofInt IntKind.u8.bits (32 : Int)).toNat :
                                          Int)) -
                                    (97 : Int)) <
                                (↑e.snd.snd.fst.length : Int) then
                          (atL e.snd.snd.fst
                                (IntKind.i64.wrap
                                  (IntKind.i64.wrap
                                      (IntKind.u8.wrap
                                        (↑(BitVec.ofInt IntKind.u8.bits x |||
                                                BitVec.ofInt IntKind.u8.bits (32 : Int)).toNat :
                                          Int)) -
                                    (97 : Int)))).bind
                            fun (x_3 : Int) =>
                            some
                              (Sum.inl
                                (IntKind.i64.wrap (e.fst + (1 : Int)), e.snd.fst,
                                  e.snd.snd.fst.set
                                    (IntKind.i64.wrap
                                        (IntKind.i64.wrap
                                            (IntKind.u8.wrap
                                              (↑(BitVec.ofInt IntKind.u8.bits x |||
                                                      BitVec.ofInt IntKind.u8.bits (32 : Int)).toNat :
                                                Int)) -
                                          (97 : Int))).toNat
                                    (IntKind.i64.wrap (x_2 + (1 : Int))),
                                  ()))
                        else none
                    else none
                  else
                    if
                        (0 : Int) ≤
                            IntKind.i64.wrap
                              (IntKind.i64.wrap
                                  (IntKind.u8.wrap
                                    (↑(BitVec.ofInt IntKind.u8.bits x |||
                                            BitVec.ofInt IntKind.u8.bits (32 : Int)).toNat :
                                      Int)) -
                                (97 : Int)) ∧
                          IntKind.i64.wrap
                              (IntKind.i64.wrap
                                  (IntKind.u8.wrap
                                    (↑(BitVec.ofInt IntKind.u8.bits x |||
                                            BitVec.ofInt IntKind.u8.bits (32 : Int)).toNat :
                                      Int)) -
                                (97 : Int)) <
                            (↑e.snd.snd.fst.length : Int) then
                      ((atL e.snd.snd.fst
                                (IntKind.i64.wrap
                                  (IntKind.i64.wrap
                                      (IntKind.u8.wrap
                                        (↑(BitVec.ofInt IntKind.u8.bits x |||
                                                BitVec.ofInt IntKind.u8.bits (32 : Int)).toNat :
                                          Int)) -
                                    (97 : Int)))).bind
                            fun (y : Int) => some y).bind
                        fun (x_2 : Int) =>
                        if
                            (0 : Int) ≤
                                IntKind.i64.wrap
                                  (IntKind.i64.wrap
                                      (IntKind.u8.wrap
                                        (↑(BitVec.ofInt IntKind.u8.bits x |||
                                                BitVec.ofInt IntKind.u8.bits (32 : Int)).toNat :
                                          Int)) -
                                    (97 : Int)) ∧
                              IntKind.i64.wrap
                                  (IntKind.i64.wrap
                                      (IntKind.u8.wrap
                                        (↑(BitVec.ofInt IntKind.u8.bits x |||
                                                BitVec.ofInt IntKind.u8.bits (32 : Int)).toNat :
                                          Int)) -
                                    (97 : Int)) <
                                (↑e.snd.snd.fst.length : Int) then
                          (atL e.snd.snd.fst
                                (IntKind.i64.wrap
                                  (IntKind.i64.wrap
                                      (IntKind.u8.wrap
                                        (↑(BitVec.ofInt IntKind.u8.bits x |||
                                                BitVec.ofInt IntKind.u8.bits (32 : Int)).toNat :
                                          Int)) -
                                    (97 : Int)))).bind
                            fun (x_3 : Int) =>
                            some
                              (Sum.inl
                                (IntKind.i64.wrap (e.fst + (1 : Int)), e.snd.fst,
                                  e.snd.snd.fst.set
                                    (IntKind.i64.wrap
                                        (IntKind.i64.wrap
                                            (IntKind.u8.wrap
                                              (↑(BitVec.ofInt IntKind.u8.bits x |||
                                                      BitVec.ofInt IntKind.u8.bits (32 : Int)).toNat :
                                                Int)) -
                                          (97 : Int))).toNat
                                    (IntKind.i64.wrap (x_2 - (1 : Int))),
                                  ()))
                        else none
                    else none
            else some (Sum.inr (Sum.inl (e.snd.snd.fst, ()))))
          k ((0 : Int), e.snd.fst, List.replicate e.fst.toNat (0 : Int), ())).bind
      (sumE (fun (e : List Int × Unit) => some (e.fst, ())) emE)
  else none
theorem F28_eq (k : Nat) : funT (K := KK) (G := GG) PT28 TTPvAa PQ28 L28 k 400 a28 [((.int .i64)), .str] [((.sl (.int .i64)), some 3)] X28 = some (F28 k) := by kernel_rfl
def pc28 : PC KK GG := ⟨28, [((.int .i64)), .str], [((.sl (.int .i64)), some 3)], F28, fun k H Z e vs h1 h2 h3 r h4 => fun_ok a28_eq (fun a H => xo_none 28 a H (of_decide_eq_true (by kernel_rfl))) GG_keep (of_decide_eq_true (by kernel_rfl)) (F28_eq k) H Z e vs h1 h2 h3 r h4⟩
def a34 : AFunc := ⟨21, [(.tmp 4), (.tmp 5)], (.seq (.ops [⟨(some 4), (.mv (.const (.slice none 0 0))), none⟩, ⟨(some 5), (.mv (.const (.int .i64 (0)))), none⟩]) (.seq (.seq (.ops [⟨(some 6), (.mv (.tmp 0)), none⟩, ⟨(some 7), (.bin .lss (.tmp 6) (.const (.int .i64 (1)))), none⟩, ⟨(some 8), (.mv (.tmp 7)), none⟩, ⟨(some 9), (.mv (.tmp 0)), (some ((some 8), false))⟩, ⟨(some 10), (.bin .gtr (.tmp 9) (.const (.int .i64 (8)))), (some ((some 8), false))⟩, ⟨(some 11), (.pick (.tmp 8) (.const (.bool true)) (.tmp 10)), none⟩, ⟨(some 12), (.mv (.tmp 11)), none⟩, ⟨(some 13), (.mv (.tmp 0)), (some ((some 12), false))⟩, ⟨(some 14), (.mv (.tmp 1)), (some ((some 12), false))⟩, ⟨(some 15), (.call (.func 24) #[(.tmp 13), (.tmp 14)]), (some ((some 12), false))⟩, ⟨(some 16), (.un .not (.tmp 15)), (some ((some 12), false))⟩, ⟨(some 17), (.pick (.tmp 12) (.const (.bool true)) (.tmp 16)), none⟩]) (.cond (.tmp 17) (.seq (.ops [⟨(some 4), (.mv (.const (.slice none 0 0))), none⟩, ⟨(some 5), (.mv (.const (.int .i64 (1)))), none⟩]) .ret) .skip)) (.seq (.ops [⟨(some 18), (.mv (.tmp 0)), none⟩, ⟨(some 19), (.mv (.tmp 1)), none⟩, ⟨(some 20), (.call (.func 28) #[(.tmp 18), (.tmp 19)]), none⟩, ⟨(some 4), (.mv (.tmp 20)), none⟩, ⟨(some 5), (.mv (.const (.int .i64 (0)))), none⟩]) .ret)))⟩
theorem a34_eq : compFunc Tryd.prog [0] 34 = some a34 := by kernel_rfl
def PT34 : List (PC KK GG) := [pc24, pc28]
def PQ34 : List (PP KK GG) := []
def L34 : List Lh := [⟨1105148, [(1, .as), (0, .as), (17, .as)], ⟨[.bool, (.int .i64), .str], [(1, .v (.a (.pu 0))), (0, .v (.a (.pu 1))), (17, .v (.a (.pu 2)))], []⟩, []⟩]
def X34 : List Xh := [⟨.r, [(4, .own (.int .i64) 3), (5, .as)], ⟨[(.int .i64), (.sl (.int .i64))], [(4, .v (.a (.hd 0))), (5, .v (.a (.pu 1)))], [.sl (.int .i64) 3 0]⟩⟩]
def F34 (k : Nat) : Int × ByteArray × Unit → Option (List Int × Int × Unit) := fun (e : Int × ByteArray × Unit) =>
  (if decide (e.fst < (1 : Int)) = true then some (Sum.inl (true, e.fst, e.snd.fst, ()))
      else
        if decide (e.fst > (8 : Int)) = true then some (Sum.inl (true, e.fst, e.snd.fst, ()))
        else
          (F24 k (e.fst, e.snd.fst, ())).bind fun (x : Bool × Unit) =>
            some (Sum.inl (!x.fst, e.fst, e.snd.fst, ()))).bind
    (sumE
      (fun (e : Bool × Int × ByteArray × Unit) =>
        if e.fst = true then some ([], (1 : Int), ())
        else (F28 k (e.snd.fst, e.snd.snd.fst, ())).bind fun (x : List Int × Unit) => some (x.fst, (0 : Int), ()))
      emE)
theorem F34_eq (k : Nat) : funT (K := KK) (G := GG) PT34 TTPvAa PQ34 L34 k 400 a34 [((.int .i64)), .str] [((.sl (.int .i64)), some 3), ((.int .i64), none)] X34 = some (F34 k) := by kernel_rfl
def pc34 : PC KK GG := ⟨34, [((.int .i64)), .str], [((.sl (.int .i64)), some 3), ((.int .i64), none)], F34, fun k H Z e vs h1 h2 h3 r h4 => fun_ok a34_eq (fun a H => xo_none 34 a H (of_decide_eq_true (by kernel_rfl))) GG_keep (of_decide_eq_true (by kernel_rfl)) (F34_eq k) H Z e vs h1 h2 h3 r h4⟩
def a51 : AFunc := ⟨27, [(.cellA 8 2)], (.seq (.ops [⟨(some 2), (.new 66 [(.int .i64 (0)), (.int .i64 (0)), (.int .i64 (0)), (.int .i64 (0)), (.int .i64 (0)), (.int .i64 (0)), (.int .i64 (0)), (.int .i64 (0))]), none⟩]) (.seq (.ops [⟨(some 3), (.new 66 [(.int .i64 (0)), (.int .i64 (0)), (.int .i64 (0)), (.int .i64 (0)), (.int .i64 (0)), (.int .i64 (0)), (.int .i64 (0)), (.int .i64 (0))]), none⟩]) (.seq (.seq (.ops [⟨(some 6), (.mv (.tmp 0)), none⟩, ⟨(some 7), (.lenS (.tmp 6)), none⟩, ⟨(some 8), (.mv (.const (.int .i64 (0)))), none⟩]) (.block 0 (.loop (.seq (.ops [⟨(some 9), (.bin .lss (.tmp 8) (.tmp 7)), none⟩]) (.seq (.cond (.tmp 9) .skip (.exit 0)) (.seq (.block 1 (.seq (.ops [⟨(some 10), (.mv (.tmp 8)), none⟩, ⟨(some 4), (.mv (.tmp 10)), none⟩]) (.seq (.ops [⟨(some 11), (.mv (.tmp 0)), none⟩, ⟨(some 12), (.mv (.tmp 4)), none⟩, ⟨(some 13), (.ixStr (.tmp 11) (.tmp 12)), none⟩, ⟨(some 14), (.call (.func 77) #[(.tmp 13)]), none⟩, ⟨(some 5), (.mv (.tmp 14)), none⟩]) (.ops [⟨(some 15), (.mv (.tmp 5)), none⟩, ⟨(some 16), (.bin .quo (.tmp 15) (.const (.int .i64 (2)))), none⟩, ⟨(some 17), (.ixA 8 1 (.tmp 3) (.tmp 16)), none⟩, ⟨(some 18), (.load (.tmp 17)), none⟩, ⟨(some 19), (.mv (.tmp 5)), none⟩, ⟨(some 20), (.bin .rem (.tmp 19) (.const (.int .i64 (2)))), none⟩, ⟨(some 21), (.bin .mul (.const (.int .i64 (2))) (.tmp 20)), none⟩, ⟨(some 22), (.bin .sub (.const (.int .i64 (1))) (.tmp 21)), none⟩, ⟨(some 23), (.bin .add (.tmp 18) (.tmp 22)), none⟩, ⟨(some 24), (.ixA 8 1 (.tmp 3) (.tmp 16)), none⟩, ⟨none, (.store 1 (.tmp 24) (.tmp 23)), none⟩])))) (.ops [⟨(some 25), (.bin .add (.tmp 8) (.const (.int .i64 (1)))), none⟩, ⟨(some 8), (.mv (.tmp 25)), none⟩]))))))) (.seq (.ops [⟨(some 26), (.loadA 8 (.tmp 3)), none⟩, ⟨none, (.store 8 (.tmp 2) (.tmp 26)), none⟩]) .ret))))⟩
theorem a51_eq : compFunc Tryd.prog [0] 51 = some a51 := by kernel_rfl
def PT51 : List (PC KK GG) := [(pc77)]
def PQ51 : List (PP KK GG) := []
def L51 : List Lh := [⟨0, [(2, .as), (3, .as), (0, .as), (7, .as), (8, .as)], ⟨[(.int .i64), (.int .i64), .str, (.arr 8 (.int .i64)), (.arr 8 (.int .i64))], [(2, .v (.a (.bp 0 0))), (3, .v (.a (.bp 1 0))), (0, .v (.a (.pu 2))), (7, .v (.a (.pu 3))), (8, .v (.a (.pu 4)))], [.bx [(.pu 0)], .bx [(.pu 1)]]⟩, [⟨.x 0, [(2, .as), (3, .as)], ⟨[(.arr 8 (.int .i64)), (.arr 8 (.int .i64))], [(2, .v (.a (.bp 0 0))), (3, .v (.a (.bp 1 0)))], [.bx [(.pu 0)], .bx [(.pu 1)]]⟩⟩]⟩]
def X51 : List Xh := [⟨.r, [(2, .as)], ⟨[(.arr 8 (.int .i64))], [(2, .v (.a (.bp 0 0)))], [.bx [(.pu 0)]]⟩⟩]
def F51 (k : Nat) : ByteArray × Unit → Option (List Int × Unit) := fun (e : ByteArray × Unit) =>
  (iter
        (fun (e : Int × Int × ByteArray × List Int × List Int × Unit) =>
          if decide (e.fst < e.snd.fst) = true then
            (atB e.snd.snd.fst e.fst).bind fun (x : Int) =>
              (F77 k (x, ())).bind fun (x : Int × Unit) =>
                (if (2 : Int) = (0 : Int) then none else some (IntKind.i64.wrap (x.fst.tdiv (2 : Int)))).bind
                  fun (x_1 : Int) =>
                  if (0 : Int) ≤ x_1 ∧ x_1 < (↑(8 : Nat) : Int) then
                    ((atL e.snd.snd.snd.fst x_1).bind fun (y : Int) => some y).bind fun (x_2 : Int) =>
                      (if (2 : Int) = (0 : Int) then none else some (x.fst.tmod (2 : Int))).bind fun (x : Int) =>
                        if (0 : Int) ≤ x_1 ∧ x_1 < (↑(8 : Nat) : Int) then
                          (atL e.snd.snd.snd.fst x_1).bind fun (x_3 : Int) =>
                            some
                              (Sum.inl
                                (IntKind.i64.wrap (e.fst + (1 : Int)), e.snd.fst, e.snd.snd.fst,
                                  e.snd.snd.snd.fst.set x_1.toNat
                                    (IntKind.i64.wrap
                                      (x_2 + IntKind.i64.wrap ((1 : Int) - IntKind.i64.wrap ((2 : Int) * x)))),
                                  e.snd.snd.snd.snd.fst, ()))
                        else none
                  else none
          else some (Sum.inr (Sum.inl (e.snd.snd.snd.fst, e.snd.snd.snd.snd.fst, ()))))
        k
        ((0 : Int), (↑e.fst.size : Int), e.fst,
          [(0 : Int), (0 : Int), (0 : Int), (0 : Int), (0 : Int), (0 : Int), (0 : Int), (0 : Int)],
          [(0 : Int), (0 : Int), (0 : Int), (0 : Int), (0 : Int), (0 : Int), (0 : Int), (0 : Int)], ())).bind
    (sumE (fun (e : List Int × List Int × Unit) => some (e.fst, ())) emE)
theorem F51_eq (k : Nat) : funT (K := KK) (G := GG) PT51 TTPvAa PQ51 L51 k 400 a51 [.str] [((.arr 8 (.int .i64)), none)] X51 = some (F51 k) := by kernel_rfl
def pc51 : PC KK GG := ⟨51, [.str], [((.arr 8 (.int .i64)), none)], F51, fun k H Z e vs h1 h2 h3 r h4 => fun_ok a51_eq (fun a H => xo_none 51 a H (of_decide_eq_true (by kernel_rfl))) GG_keep (of_decide_eq_true (by kernel_rfl)) (F51_eq k) H Z e vs h1 h2 h3 r h4⟩
end Go.Proofs.YtbjdbpkdkfkpeaaDoorEv
