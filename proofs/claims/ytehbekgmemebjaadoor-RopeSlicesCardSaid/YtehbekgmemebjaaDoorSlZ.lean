import Derived.Test.YtehbekgmemebjaaDoorPvN
import Derived.Test.YtehbekgmemebjaaDoorProg
import Derived.Test.YtehbekgmemebjaaDoorSlV
import Derived.Test.YtehbekgmemebjaaDoorSlPc
namespace Go.Proofs.YtehbekgmemebjaaDoorEv
open Go
set_option linter.unusedVariables false
set_option linter.unusedSimpArgs false
set_option maxRecDepth 100000
def TTSlY : Nat → Option Ty
  | _ => none
def a8 : AFunc := ⟨133, [(.tmp 8)], (.seq (.ops [⟨(some 8), (.mv (.const (.bool false))), none⟩]) (.seq (.ops [⟨(some 20), (.mv (.tmp 0)), none⟩, ⟨(some 21), (.mv (.tmp 1)), none⟩, ⟨(some 22), (.mv (.tmp 2)), none⟩, ⟨(some 23), (.call (.func 29) #[(.tmp 20), (.tmp 21), (.tmp 22)]), none⟩, ⟨(some 19), (.mv (.tmp 23)), none⟩, ⟨(some 24), (.extract (.tmp 19) 0), none⟩, ⟨(some 25), (.extract (.tmp 19) 1), none⟩, ⟨(some 9), (.mv (.tmp 24)), none⟩, ⟨(some 10), (.mv (.tmp 25)), none⟩]) (.seq (.ops [⟨(some 27), (.mv (.tmp 0)), none⟩, ⟨(some 28), (.call (.func 12) #[(.tmp 27)]), none⟩, ⟨(some 26), (.mv (.tmp 28)), none⟩, ⟨(some 29), (.extract (.tmp 26) 0), none⟩, ⟨(some 30), (.extract (.tmp 26) 1), none⟩, ⟨(some 11), (.mv (.tmp 29)), none⟩, ⟨(some 12), (.mv (.tmp 30)), none⟩]) (.seq (.seq (.ops [⟨(some 31), (.mv (.tmp 12)), none⟩, ⟨(some 32), (.bin .neq (.tmp 31) (.const (.int .i64 (0)))), none⟩]) (.cond (.tmp 32) (.seq (.ops [⟨(some 33), (.call (.func 13) #[]), none⟩, ⟨(some 34), (.mv (.tmp 33)), none⟩, ⟨(some 35), (.mv (.tmp 10)), (some ((some 34), true))⟩, ⟨(some 36), (.bin .eql (.tmp 35) (.const (.int .i64 (20)))), (some ((some 34), true))⟩, ⟨(some 37), (.pick (.tmp 34) (.tmp 36) (.const (.bool false))), none⟩, ⟨(some 38), (.mv (.tmp 37)), none⟩, ⟨(some 39), (.mv (.tmp 9)), (some ((some 38), true))⟩, ⟨(some 40), (.lenL (.tmp 39)), (some ((some 38), true))⟩, ⟨(some 41), (.bin .eql (.tmp 40) (.const (.int .i64 (0)))), (some ((some 38), true))⟩, ⟨(some 42), (.pick (.tmp 38) (.tmp 41) (.const (.bool false))), none⟩, ⟨(some 8), (.mv (.tmp 42)), none⟩]) .ret) .skip)) (.seq (.seq (.ops [⟨(some 43), (.mv (.tmp 1)), none⟩, ⟨(some 44), (.bin .lss (.tmp 43) (.const (.int .i64 (0)))), none⟩, ⟨(some 45), (.mv (.tmp 44)), none⟩, ⟨(some 46), (.mv (.tmp 2)), (some ((some 45), false))⟩, ⟨(some 47), (.mv (.tmp 1)), (some ((some 45), false))⟩, ⟨(some 48), (.bin .lss (.tmp 46) (.tmp 47)), (some ((some 45), false))⟩, ⟨(some 49), (.pick (.tmp 45) (.const (.bool true)) (.tmp 48)), none⟩, ⟨(some 50), (.mv (.tmp 49)), none⟩, ⟨(some 51), (.mv (.tmp 2)), (some ((some 50), false))⟩, ⟨(some 52), (.mv (.tmp 11)), (some ((some 50), false))⟩, ⟨(some 53), (.bin .gtr (.tmp 51) (.tmp 52)), (some ((some 50), false))⟩, ⟨(some 54), (.pick (.tmp 50) (.const (.bool true)) (.tmp 53)), none⟩]) (.cond (.tmp 54) (.seq (.ops [⟨(some 55), (.call (.func 13) #[]), none⟩, ⟨(some 56), (.mv (.tmp 55)), none⟩, ⟨(some 57), (.mv (.tmp 10)), (some ((some 56), true))⟩, ⟨(some 58), (.bin .eql (.tmp 57) (.const (.int .i64 (1)))), (some ((some 56), true))⟩, ⟨(some 59), (.pick (.tmp 56) (.tmp 58) (.const (.bool false))), none⟩, ⟨(some 60), (.mv (.tmp 59)), none⟩, ⟨(some 61), (.mv (.tmp 9)), (some ((some 60), true))⟩, ⟨(some 62), (.lenL (.tmp 61)), (some ((some 60), true))⟩, ⟨(some 63), (.bin .eql (.tmp 62) (.const (.int .i64 (0)))), (some ((some 60), true))⟩, ⟨(some 64), (.pick (.tmp 60) (.tmp 63) (.const (.bool false))), none⟩, ⟨(some 8), (.mv (.tmp 64)), none⟩]) .ret) .skip)) (.seq (.seq (.ops [⟨(some 65), (.mv (.tmp 0)), none⟩, ⟨(some 66), (.lenL (.tmp 65)), none⟩, ⟨(some 67), (.bin .gtr (.tmp 66) (.const (.int .i64 (400)))), none⟩]) (.cond (.tmp 67) (.seq (.ops [⟨(some 68), (.call (.func 13) #[]), none⟩, ⟨(some 69), (.mv (.tmp 68)), none⟩, ⟨(some 70), (.mv (.tmp 10)), (some ((some 69), true))⟩, ⟨(some 71), (.bin .eql (.tmp 70) (.const (.int .i64 (2)))), (some ((some 69), true))⟩, ⟨(some 72), (.pick (.tmp 69) (.tmp 71) (.const (.bool false))), none⟩, ⟨(some 73), (.mv (.tmp 72)), none⟩, ⟨(some 74), (.mv (.tmp 9)), (some ((some 73), true))⟩, ⟨(some 75), (.lenL (.tmp 74)), (some ((some 73), true))⟩, ⟨(some 76), (.bin .eql (.tmp 75) (.const (.int .i64 (0)))), (some ((some 73), true))⟩, ⟨(some 77), (.pick (.tmp 73) (.tmp 76) (.const (.bool false))), none⟩, ⟨(some 8), (.mv (.tmp 77)), none⟩]) .ret) .skip)) (.seq (.ops [⟨(some 79), (.mv (.tmp 9)), none⟩, ⟨(some 80), (.call (.func 12) #[(.tmp 79)]), none⟩, ⟨(some 78), (.mv (.tmp 80)), none⟩, ⟨(some 81), (.extract (.tmp 78) 0), none⟩, ⟨(some 82), (.extract (.tmp 78) 1), none⟩, ⟨(some 13), (.mv (.tmp 81)), none⟩, ⟨(some 14), (.mv (.tmp 82)), none⟩]) (.seq (.seq (.ops [⟨(some 83), (.call (.func 13) #[]), none⟩, ⟨(some 84), (.un .not (.tmp 83)), none⟩, ⟨(some 85), (.mv (.tmp 84)), none⟩, ⟨(some 86), (.mv (.tmp 10)), (some ((some 85), false))⟩, ⟨(some 87), (.bin .neq (.tmp 86) (.const (.int .i64 (0)))), (some ((some 85), false))⟩, ⟨(some 88), (.pick (.tmp 85) (.const (.bool true)) (.tmp 87)), none⟩, ⟨(some 89), (.mv (.tmp 88)), none⟩, ⟨(some 90), (.mv (.tmp 14)), (some ((some 89), false))⟩, ⟨(some 91), (.bin .neq (.tmp 90) (.const (.int .i64 (0)))), (some ((some 89), false))⟩, ⟨(some 92), (.pick (.tmp 89) (.const (.bool true)) (.tmp 91)), none⟩, ⟨(some 93), (.mv (.tmp 92)), none⟩, ⟨(some 94), (.mv (.tmp 13)), (some ((some 93), false))⟩, ⟨(some 95), (.mv (.tmp 2)), (some ((some 93), false))⟩, ⟨(some 96), (.mv (.tmp 1)), (some ((some 93), false))⟩, ⟨(some 97), (.bin .sub (.tmp 95) (.tmp 96)), (some ((some 93), false))⟩, ⟨(some 98), (.bin .neq (.tmp 94) (.tmp 97)), (some ((some 93), false))⟩, ⟨(some 99), (.pick (.tmp 93) (.const (.bool true)) (.tmp 98)), none⟩, ⟨(some 100), (.mv (.tmp 99)), none⟩, ⟨(some 101), (.mv (.tmp 9)), (some ((some 100), false))⟩, ⟨(some 102), (.lenL (.tmp 101)), (some ((some 100), false))⟩, ⟨(some 103), (.mv (.tmp 0)), (some ((some 100), false))⟩, ⟨(some 104), (.lenL (.tmp 103)), (some ((some 100), false))⟩, ⟨(some 105), (.bin .mul (.const (.int .i64 (8))) (.tmp 104)), (some ((some 100), false))⟩, ⟨(some 106), (.bin .add (.tmp 105) (.const (.int .i64 (8)))), (some ((some 100), false))⟩, ⟨(some 107), (.bin .gtr (.tmp 102) (.tmp 106)), (some ((some 100), false))⟩, ⟨(some 108), (.pick (.tmp 100) (.const (.bool true)) (.tmp 107)), none⟩]) (.cond (.tmp 108) (.seq (.ops [⟨(some 8), (.mv (.const (.bool false))), none⟩]) .ret) .skip)) (.seq (.seq (.ops [⟨(some 109), (.mv (.tmp 3)), none⟩, ⟨(some 110), (.bin .lss (.tmp 109) (.const (.int .i64 (0)))), none⟩, ⟨(some 111), (.mv (.tmp 110)), none⟩, ⟨(some 112), (.mv (.tmp 3)), (some ((some 111), false))⟩, ⟨(some 113), (.mv (.tmp 13)), (some ((some 111), false))⟩, ⟨(some 114), (.bin .geq (.tmp 112) (.tmp 113)), (some ((some 111), false))⟩, ⟨(some 115), (.pick (.tmp 111) (.const (.bool true)) (.tmp 114)), none⟩]) (.cond (.tmp 115) (.seq (.ops [⟨(some 8), (.mv (.const (.bool true))), none⟩]) .ret) .skip)) (.seq (.ops [⟨(some 117), (.mv (.tmp 9)), none⟩, ⟨(some 118), (.mv (.tmp 3)), none⟩, ⟨(some 119), (.call (.func 14) #[(.tmp 117), (.tmp 118)]), none⟩, ⟨(some 116), (.mv (.tmp 119)), none⟩, ⟨(some 120), (.extract (.tmp 116) 0), none⟩, ⟨(some 121), (.extract (.tmp 116) 1), none⟩, ⟨(some 15), (.mv (.tmp 120)), none⟩, ⟨(some 16), (.mv (.tmp 121)), none⟩]) (.seq (.ops [⟨(some 123), (.mv (.tmp 0)), none⟩, ⟨(some 124), (.mv (.tmp 1)), none⟩, ⟨(some 125), (.mv (.tmp 3)), none⟩, ⟨(some 126), (.bin .add (.tmp 124) (.tmp 125)), none⟩, ⟨(some 127), (.call (.func 14) #[(.tmp 123), (.tmp 126)]), none⟩, ⟨(some 122), (.mv (.tmp 127)), none⟩, ⟨(some 128), (.extract (.tmp 122) 0), none⟩, ⟨(some 129), (.extract (.tmp 122) 1), none⟩, ⟨(some 17), (.mv (.tmp 128)), none⟩, ⟨(some 18), (.mv (.tmp 129)), none⟩]) (.seq (.ops [⟨(some 130), (.mv (.tmp 15)), none⟩, ⟨(some 131), (.mv (.tmp 17)), none⟩, ⟨(some 132), (.bin .eql (.tmp 130) (.tmp 131)), none⟩, ⟨(some 8), (.mv (.tmp 132)), none⟩]) .ret))))))))))))⟩
theorem a8_eq : compFunc Tryd.prog [0] 8 = some a8 := by kernel_rfl
def PT8 : List (PC KK GG) := [(pc13), (pc29), (pc12), (pc14)]
def PQ8 : List (PP KK GG) := []
def L8 : List Lh := [⟨1000221, [(8, .as)], ⟨[.bool], [(8, .v (.a (.pu 0)))], []⟩, []⟩, ⟨1972695, [(3, .as), (1, .as), (0, .as), (9, .as), (2, .as), (10, .as), (54, .as)], ⟨[.bool, (.int .i64), (.int .i64), (.sl (.pair .str (.pair (.int .i64) (.pair (.int .i64) (.pair (.int .i64) .unit))))), (.sl (.pair .str (.pair (.int .i64) (.pair (.int .i64) (.pair (.int .i64) .unit))))), (.int .i64), (.int .i64)], [(3, .v (.a (.pu 0))), (1, .v (.a (.pu 1))), (0, .v (.a (.pu 2))), (9, .v (.a (.pu 3))), (2, .v (.a (.pu 4))), (10, .v (.a (.pu 5))), (54, .v (.a (.pu 6)))], []⟩, []⟩, ⟨1750404, [(3, .as), (1, .as), (0, .as), (9, .as), (13, .as), (108, .as)], ⟨[.bool, (.int .i64), (.sl (.pair .str (.pair (.int .i64) (.pair (.int .i64) (.pair (.int .i64) .unit))))), (.sl (.pair .str (.pair (.int .i64) (.pair (.int .i64) (.pair (.int .i64) .unit))))), (.int .i64), (.int .i64)], [(3, .v (.a (.pu 0))), (1, .v (.a (.pu 1))), (0, .v (.a (.pu 2))), (9, .v (.a (.pu 3))), (13, .v (.a (.pu 4))), (108, .v (.a (.pu 5)))], []⟩, []⟩, ⟨1958941, [(3, .as), (1, .as), (0, .as), (9, .as), (115, .as)], ⟨[.bool, (.sl (.pair .str (.pair (.int .i64) (.pair (.int .i64) (.pair (.int .i64) .unit))))), (.sl (.pair .str (.pair (.int .i64) (.pair (.int .i64) (.pair (.int .i64) .unit))))), (.int .i64), (.int .i64)], [(3, .v (.a (.pu 0))), (1, .v (.a (.pu 1))), (0, .v (.a (.pu 2))), (9, .v (.a (.pu 3))), (115, .v (.a (.pu 4)))], []⟩, []⟩]
def X8 : List Xh := [⟨.r, [(8, .as)], ⟨[.bool], [(8, .v (.a (.pu 0)))], []⟩⟩]
def F8 (k : Nat) : List (ByteArray × Int × Int × Int × Unit) × Int × Int × Int × Unit → Option (Bool × Unit) := fun (e : List (ByteArray × Int × Int × Int × Unit) × Int × Int × Int × Unit) =>
  (F29 k (e.fst, e.snd.fst, e.snd.snd.fst, ())).bind
    fun (x : List (ByteArray × Int × Int × Int × Unit) × Int × Unit) =>
    (F12 k (e.fst, ())).bind fun (x_1 : Int × Int × Unit) =>
      if (x_1.snd.fst != (0 : Int)) = true then
        ((F13 k ()).bind fun (x_2 : Bool × Unit) =>
              if x_2.fst = true then
                if (x.snd.fst == (20 : Int)) = true then some (Sum.inl ((↑x.fst.length : Int) == (0 : Int), ()))
                else some (Sum.inl (false, ()))
              else some (Sum.inl (false, ()))).bind
          (sumE (fun (e : Bool × Unit) => some (e.fst, ())) emE)
      else
        (if decide (e.snd.fst < (0 : Int)) = true then
              some (Sum.inl (true, x.snd.fst, e.snd.snd.fst, x.fst, e.fst, e.snd.fst, e.snd.snd.snd.fst, ()))
            else
              if decide (e.snd.snd.fst < e.snd.fst) = true then
                some (Sum.inl (true, x.snd.fst, e.snd.snd.fst, x.fst, e.fst, e.snd.fst, e.snd.snd.snd.fst, ()))
              else
                some
                  (Sum.inl
                    (decide (e.snd.snd.fst > x_1.fst), x.snd.fst, e.snd.snd.fst, x.fst, e.fst, e.snd.fst,
                      e.snd.snd.snd.fst, ()))).bind
          (sumE
            (fun
                (e :
                  Bool ×
                    Int ×
                      Int ×
                        List (ByteArray × Int × Int × Int × Unit) ×
                          List (ByteArray × Int × Int × Int × Unit) × Int × Int × Unit) =>
              if e.fst = true then
                ((F13 k ()).bind fun (x : Bool × Unit) =>
                      if x.fst = true then
                        if (e.snd.fst == (1 : Int)) = true then
                          some (Sum.inl ((↑e.snd.snd.snd.fst.length : Int) == (0 : Int), ()))
                        else some (Sum.inl (false, ()))
                      else some (Sum.inl (false, ()))).bind
                  (sumE (fun (e : Bool × Unit) => some (e.fst, ())) emE)
              else
                if decide ((↑e.snd.snd.snd.snd.fst.length : Int) > (400 : Int)) = true then
                  ((F13 k ()).bind fun (x : Bool × Unit) =>
                        if x.fst = true then
                          if (e.snd.fst == (2 : Int)) = true then
                            some (Sum.inl ((↑e.snd.snd.snd.fst.length : Int) == (0 : Int), ()))
                          else some (Sum.inl (false, ()))
                        else some (Sum.inl (false, ()))).bind
                    (sumE (fun (e : Bool × Unit) => some (e.fst, ())) emE)
                else
                  (F12 k (e.snd.snd.snd.fst, ())).bind fun (x : Int × Int × Unit) =>
                    ((F13 k ()).bind fun (x_2 : Bool × Unit) =>
                          if (!x_2.fst) = true then
                            some
                              (Sum.inl
                                (true, x.fst, e.snd.snd.snd.fst, e.snd.snd.snd.snd.fst, e.snd.snd.snd.snd.snd.fst,
                                  e.snd.snd.snd.snd.snd.snd.fst, ()))
                          else
                            if (e.snd.fst != (0 : Int)) = true then
                              some
                                (Sum.inl
                                  (true, x.fst, e.snd.snd.snd.fst, e.snd.snd.snd.snd.fst, e.snd.snd.snd.snd.snd.fst,
                                    e.snd.snd.snd.snd.snd.snd.fst, ()))
                            else
                              if (x.snd.fst != (0 : Int)) = true then
                                some
                                  (Sum.inl
                                    (true, x.fst, e.snd.snd.snd.fst, e.snd.snd.snd.snd.fst, e.snd.snd.snd.snd.snd.fst,
                                      e.snd.snd.snd.snd.snd.snd.fst, ()))
                              else
                                if (x.fst != IntKind.i64.wrap (e.snd.snd.fst - e.snd.snd.snd.snd.snd.fst)) = true then
                                  some
                                    (Sum.inl
                                      (true, x.fst, e.snd.snd.snd.fst, e.snd.snd.snd.snd.fst, e.snd.snd.snd.snd.snd.fst,
                                        e.snd.snd.snd.snd.snd.snd.fst, ()))
                                else
                                  some
                                    (Sum.inl
                                      (decide
                                          ((↑e.snd.snd.snd.fst.length : Int) >
                                            IntKind.i64.wrap
                                              (IntKind.i64.wrap ((8 : Int) * (↑e.snd.snd.snd.snd.fst.length : Int)) +
                                                (8 : Int))),
                                        x.fst, e.snd.snd.snd.fst, e.snd.snd.snd.snd.fst, e.snd.snd.snd.snd.snd.fst,
                                        e.snd.snd.snd.snd.snd.snd.fst, ()))).bind
                      (sumE
                        (fun
                            (e :
                              Bool ×
                                Int ×
                                  List (ByteArray × Int × Int × Int × Unit) ×
                                    List (ByteArray × Int × Int × Int × Unit) × Int × Int × Unit) =>
                          if e.fst = true then some (false, ())
                          else
                            (if decide (e.snd.snd.snd.snd.snd.fst < (0 : Int)) = true then
                                  some
                                    (Sum.inl
                                      (true, e.snd.snd.fst, e.snd.snd.snd.fst, e.snd.snd.snd.snd.fst,
                                        e.snd.snd.snd.snd.snd.fst, ()))
                                else
                                  some
                                    (Sum.inl
                                      (decide (e.snd.snd.snd.snd.snd.fst ≥ e.snd.fst), e.snd.snd.fst, e.snd.snd.snd.fst,
                                        e.snd.snd.snd.snd.fst, e.snd.snd.snd.snd.snd.fst, ()))).bind
                              (sumE
                                (fun
                                    (e :
                                      Bool ×
                                        List (ByteArray × Int × Int × Int × Unit) ×
                                          List (ByteArray × Int × Int × Int × Unit) × Int × Int × Unit) =>
                                  if e.fst = true then some (true, ())
                                  else
                                    (F14 k (e.snd.fst, e.snd.snd.snd.snd.fst, ())).bind fun (x : Int × Int × Unit) =>
                                      (F14 k
                                            (e.snd.snd.fst,
                                              IntKind.i64.wrap (e.snd.snd.snd.fst + e.snd.snd.snd.snd.fst), ())).bind
                                        fun (x_2 : Int × Int × Unit) => some (x.fst == x_2.fst, ()))
                                emE))
                        emE))
            emE)
theorem F8_eq (k : Nat) : funT (K := KK) (G := GG) PT8 TTSlY PQ8 L8 k 400 a8 [((.sl (.pair .str (.pair (.int .i64) (.pair (.int .i64) (.pair (.int .i64) .unit)))))), ((.int .i64)), ((.int .i64)), ((.int .i64))] [(.bool, none)] X8 = some (F8 k) := by kernel_rfl
def pc8 : PC KK GG := ⟨8, [((.sl (.pair .str (.pair (.int .i64) (.pair (.int .i64) (.pair (.int .i64) .unit)))))), ((.int .i64)), ((.int .i64)), ((.int .i64))], [(.bool, none)], F8, fun k H Z e vs h1 h2 h3 r h4 => fun_ok a8_eq (fun a H => xo_none 8 a H (of_decide_eq_true (by kernel_rfl))) GG_keep (of_decide_eq_true (by kernel_rfl)) (F8_eq k) H Z e vs h1 h2 h3 r h4⟩
end Go.Proofs.YtehbekgmemebjaaDoorEv
namespace Go.Proofs.YtehbekgmemebjaaDoorEv
open Go Go.RowKit
set_option linter.unusedVariables false
set_option linter.unusedSimpArgs false
theorem rope_short {l : List Nd} {o : List Int} (h : Rope (mS l) o) : Short l := by
  intro x hx
  obtain ⟨j, hj⟩ := List.mem_iff_getElem?.1 hx
  obtain ⟨v, hv, _⟩ := h.node j (toS x) (by rw [mS, List.getElem?_map, hj]; rfl)
  unfold stepL at hv
  show ((toS x).f0.size : Int) ≤ _
  split at hv
  · omega
  · split at hv
    · omega
    · cases hv
theorem whole_last {l : List S55} {o : List Int} (h : Rope l o) (h0 : 0 < l.length) : wholeL o = rd o ((l.length : Int) - 1) := by
  unfold wholeL lastL
  rw [if_neg (by rw [h.len]; omega), h.len]
theorem mS_ofS (l : List S55) : mS (l.map ofS) = l := map_ofS l
theorem lens_nil : lens (mS []) = some [] := rfl
theorem len8 {n : Nat} (h : n ≤ 4000) : IntKind.i64.wrap (IntKind.i64.wrap ((8 : Int) * (n : Int)) + (8 : Int)) = 8 * (n : Int) + 8 := by
  rw [i64w (x := 8 * (n : Int)) (by omega) (by omega), i64w (by omega) (by omega)]
set_option maxHeartbeats 4000000 in
theorem law_slices {a : List Nd} {i j n : Int} (hs : Short a) (hi : -9223372036854775808 ≤ i ∧ i ≤ 9223372036854775807) (hj : -9223372036854775808 ≤ j ∧ j ≤ 9223372036854775807) (hn : -9223372036854775808 ≤ n ∧ n ≤ 9223372036854775807) : Evn (fun k => F8 k (a, i, j, n, ())) (true, ()) := by
  unfold F8
  simp only []
  cases hl : lens (mS a) with
  | none =>
    refine Evn.bind (a := ([], (20 : Int), ())) (Evn.eq fun k => by unfold F29; simp only []; rw [show lens (a.map toS) = none from hl]) ?_
    refine Evn.bind (F12_none hs hl) (Evn.eq fun k => ?_)
    rfl
  | some o =>
    have hr := rope_of hl
    have hw := wholeL_range hl
    have hle : a.length ≤ 4000 := by rw [← mS_len a]; exact hr.le
    have hF : ∀ k, F29 k (a, i, j, ()) = if errP a.length (wholeL o) i j ≠ 0 ∨ i = j then some ([], errP a.length (wholeL o) i j, ()) else some ((sliceP (mS a) o i j).map ofS, (0 : Int), ()) := fun k => by
      unfold F29
      simp only []
      rw [show lens (a.map toS) = some o from hl]
    by_cases h1 : i < 0 ∨ j < i ∨ j > wholeL o
    · have he : errP a.length (wholeL o) i j = 1 := by unfold errP; rw [if_pos h1]
      refine Evn.bind (a := ([], (1 : Int), ())) (Evn.eq fun k => by rw [hF, he, if_pos (.inl (by decide))]) ?_
      refine Evn.bind (F12_some hs hl) (Evn.eq fun k => ?_)
      simp only [bne_self_eq_false, Bool.false_eq_true, if_false]
      by_cases c1 : i < 0
      · simp only [decide_eq_true c1, if_true, Option.bind_some, sumE]; rfl
      · by_cases c2 : j < i
        · simp only [decide_eq_false c1, decide_eq_true c2, Bool.false_eq_true, if_false, if_true, Option.bind_some, sumE]; rfl
        · have c3 : j > wholeL o := by omega
          simp only [decide_eq_false c1, decide_eq_false c2, decide_eq_true c3, Bool.false_eq_true, if_false, if_true, Option.bind_some, sumE]; rfl
    have c1 : ¬ i < 0 := by omega
    have c2 : ¬ j < i := by omega
    have c3 : ¬ j > wholeL o := by omega
    by_cases h2 : 400 < a.length
    · have he : errP a.length (wholeL o) i j = 2 := by unfold errP; rw [if_neg h1, if_pos h2]
      refine Evn.bind (a := ([], (2 : Int), ())) (Evn.eq fun k => by rw [hF, he, if_pos (.inl (by decide))]) ?_
      refine Evn.bind (F12_some hs hl) (Evn.eq fun k => ?_)
      simp only [bne_self_eq_false, Bool.false_eq_true, if_false, decide_eq_false c1, decide_eq_false c2, decide_eq_false c3, Option.bind_some, sumE, decide_eq_true (show (a.length : Int) > 400 by omega), if_true]
      rfl
    have c4 : ¬ (a.length : Int) > 400 := by omega
    have he : errP a.length (wholeL o) i j = 0 := by unfold errP; rw [if_neg h1, if_neg h2]
    by_cases h3 : i = j
    · subst h3
      refine Evn.bind (a := ([], (0 : Int), ())) (Evn.eq fun k => by rw [hF, he, if_pos (.inr rfl)]) ?_
      refine Evn.bind (F12_some hs hl) ?_
      simp only [bne_self_eq_false, Bool.false_eq_true, if_false, decide_eq_false c1, decide_eq_false c2, decide_eq_false c3, decide_eq_false c4, Option.bind_some, sumE]
      refine Evn.bind (F12_some (l := []) (fun x hx => by cases hx) lens_nil) (Evn.eq fun k => ?_)
      have w0 : wholeL [] = 0 := rfl
      have d0 : ((0 : Int) != IntKind.i64.wrap (i - i)) = false := by rw [Int.sub_self]; rfl
      have f13 : F13 k () = some (true, ()) := rfl
      have g0 : ¬ ((([] : List Nd).length : Int) > IntKind.i64.wrap (IntKind.i64.wrap ((8 : Int) * (a.length : Int)) + (8 : Int))) := by rw [len8 hle]; simp; omega
      simp only [f13, Option.bind_some, Bool.not_true, Bool.false_eq_true, if_false, bne_self_eq_false, w0, d0, decide_eq_false g0, sumE]
      by_cases n0 : n < 0
      · simp only [decide_eq_true n0, if_true, Option.bind_some, sumE]
      · simp only [decide_eq_false n0, Bool.false_eq_true, if_false, decide_eq_true (show n ≥ 0 by omega), if_true, Option.bind_some, sumE]
    · obtain ⟨h0, hj'⟩ := whole_pos hl (i := i) (by omega) (by omega)
      have hwl := whole_last hr h0
      have h0' : 0 < a.length := by rw [← mS_len a]; exact h0
      obtain ⟨o', hr', s0, s1, s2, s3⟩ := slice_ok hr h0 (by rw [mS_len]; omega) (i := i) (j := j) (by omega) (by omega) (by omega)
      rw [mS_len] at s1
      have hmo := mS_ofS (sliceP (mS a) o i j)
      have hl' : lens (mS ((sliceP (mS a) o i j).map ofS)) = some o' := by rw [hmo]; exact rope_lens hr'
      have hs' : Short ((sliceP (mS a) o i j).map ofS) := rope_short (by rw [hmo]; exact hr')
      have hwr : wholeL o' = j - i := by rw [whole_last hr' s0]; exact s2
      refine Evn.bind (a := ((sliceP (mS a) o i j).map ofS, (0 : Int), ())) (Evn.eq fun k => by rw [hF, he, if_neg (by rintro (h | h); exact h rfl; exact h3 h)]) ?_
      refine Evn.bind (F12_some hs hl) ?_
      simp only [bne_self_eq_false, Bool.false_eq_true, if_false, decide_eq_false c1, decide_eq_false c2, decide_eq_false c3, decide_eq_false c4, Option.bind_some, sumE]
      refine Evn.bind (F12_some hs' hl') ?_
      have d0 : (wholeL o' != IntKind.i64.wrap (j - i)) = false := by rw [hwr, i64w (by omega) (by omega)]; simp
      have f13 : ∀ k, F13 k () = some (true, ()) := fun _ => rfl
      have g0 : ¬ ((((sliceP (mS a) o i j).map ofS).length : Int) > IntKind.i64.wrap (IntKind.i64.wrap ((8 : Int) * (a.length : Int)) + (8 : Int))) := by rw [len8 hle, List.length_map]; omega
      simp only [f13, Option.bind_some, Bool.not_true, Bool.false_eq_true, if_false, bne_self_eq_false, d0, decide_eq_false g0, sumE]
      by_cases n0 : n < 0
      · refine Evn.eq fun k => ?_
        simp only [decide_eq_true n0, if_true, Option.bind_some, sumE]
      by_cases n1 : n ≥ wholeL o'
      · refine Evn.eq fun k => ?_
        simp only [decide_eq_false n0, Bool.false_eq_true, if_false, decide_eq_true n1, if_true, Option.bind_some, sumE]
      simp only [decide_eq_false n0, Bool.false_eq_true, if_false, decide_eq_false n1, Option.bind_some, sumE]
      rw [hwr] at n1
      obtain ⟨c, hc⟩ := LetR.exists hr ((mS a).length - 1) ((mS a).length - 1) (Nat.le_refl _) (by omega) (i + n) (by omega) (by
        rw [show (((mS a).length - 1 : Nat) : Int) = ((mS a).length : Int) - 1 by omega]; omega)
      rw [show (((mS a).length - 1 : Nat) : Int) = ((mS a).length : Int) - 1 by omega] at hc
      have hc' := s3 n c (by omega) (by omega) hc
      refine Evn.bind (F14_in hs' hl' (by omega) (by omega) (by rw [hmo]; exact hc')) ?_
      have hw2 : IntKind.i64.wrap (i + n) = i + n := i64w (by omega) (by omega)
      simp only [hw2]
      refine Evn.bind (F14_in hs hl (by omega) (by omega) hc) (Evn.eq fun k => ?_)
      simp
end Go.Proofs.YtehbekgmemebjaaDoorEv
