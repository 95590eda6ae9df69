import Derived.Test.YtehbekgmemebjaaDoorPvN
import Derived.Test.YtehbekgmemebjaaDoorProg
import Derived.Test.YtehbekgmemebjaaDoorPvRl
import Derived.Test.YtehbekgmemebjaaDoorPvOf
import Derived.Test.YtehbekgmemebjaaDoorExtK
import Derived.Test.YtehbekgmemebjaaDoorRows
import Derived.OpenShut
namespace Go.Proofs.YtehbekgmemebjaaDoorEv
open Go
set_option linter.unusedVariables false
set_option linter.unusedSimpArgs false
set_option maxRecDepth 100000
def TTPvRo : Nat → Option Ty
  | _ => none
def a5 : AFunc := ⟨124, [(.tmp 6)], (.seq (.ops [⟨(some 6), (.mv (.const (.bool false))), none⟩]) (.seq (.ops [⟨(some 20), (.mv (.tmp 0)), none⟩, ⟨(some 21), (.mv (.tmp 1)), none⟩, ⟨(some 22), (.call (.func 17) #[(.tmp 20), (.tmp 21)]), none⟩, ⟨(some 19), (.mv (.tmp 22)), none⟩, ⟨(some 23), (.extract (.tmp 19) 0), none⟩, ⟨(some 24), (.extract (.tmp 19) 1), none⟩, ⟨(some 7), (.mv (.tmp 23)), none⟩, ⟨(some 8), (.mv (.tmp 24)), none⟩]) (.seq (.ops [⟨(some 26), (.mv (.tmp 0)), none⟩, ⟨(some 27), (.mv (.tmp 1)), none⟩, ⟨(some 28), (.call (.func 14) #[(.tmp 26), (.tmp 27)]), none⟩, ⟨(some 25), (.mv (.tmp 28)), none⟩, ⟨(some 29), (.extract (.tmp 25) 0), none⟩, ⟨(some 30), (.extract (.tmp 25) 1), none⟩, ⟨(some 9), (.mv (.tmp 29)), none⟩, ⟨(some 10), (.mv (.tmp 30)), none⟩]) (.seq (.seq (.ops [⟨(some 31), (.mv (.tmp 7)), none⟩, ⟨(some 32), (.mv (.tmp 9)), none⟩, ⟨(some 33), (.bin .neq (.tmp 31) (.tmp 32)), none⟩, ⟨(some 34), (.mv (.tmp 33)), none⟩, ⟨(some 35), (.mv (.tmp 8)), (some ((some 34), false))⟩, ⟨(some 36), (.mv (.tmp 10)), (some ((some 34), false))⟩, ⟨(some 37), (.bin .neq (.tmp 35) (.tmp 36)), (some ((some 34), false))⟩, ⟨(some 38), (.pick (.tmp 34) (.const (.bool true)) (.tmp 37)), none⟩]) (.cond (.tmp 38) (.seq (.ops [⟨(some 6), (.mv (.const (.bool false))), none⟩]) .ret) .skip)) (.seq (.ops [⟨(some 40), (.mv (.tmp 0)), none⟩, ⟨(some 41), (.call (.func 18) #[(.tmp 40)]), none⟩, ⟨(some 39), (.mv (.tmp 41)), none⟩, ⟨(some 42), (.extract (.tmp 39) 0), none⟩, ⟨(some 43), (.extract (.tmp 39) 1), none⟩, ⟨(some 11), (.mv (.tmp 42)), none⟩, ⟨(some 12), (.mv (.tmp 43)), none⟩]) (.seq (.ops [⟨(some 45), (.mv (.tmp 0)), none⟩, ⟨(some 46), (.call (.func 19) #[(.tmp 45)]), none⟩, ⟨(some 44), (.mv (.tmp 46)), none⟩, ⟨(some 47), (.extract (.tmp 44) 0), none⟩, ⟨(some 48), (.extract (.tmp 44) 1), none⟩, ⟨(some 13), (.mv (.tmp 47)), none⟩, ⟨(some 14), (.mv (.tmp 48)), none⟩]) (.seq (.ops [⟨(some 50), (.mv (.tmp 2)), none⟩, ⟨(some 51), (.call (.func 20) #[(.tmp 50)]), none⟩, ⟨(some 49), (.mv (.tmp 51)), none⟩, ⟨(some 52), (.extract (.tmp 49) 0), none⟩, ⟨(some 53), (.extract (.tmp 49) 1), none⟩, ⟨(some 15), (.mv (.tmp 52)), none⟩, ⟨(some 16), (.mv (.tmp 53)), none⟩]) (.seq (.seq (.ops [⟨(some 54), (.mv (.tmp 2)), none⟩, ⟨(some 55), (.call (.func 21) #[(.tmp 54), (.const (.int .i64 (100000)))]), none⟩, ⟨(some 56), (.un .not (.tmp 55)), none⟩]) (.cond (.tmp 56) (.seq (.ops [⟨(some 57), (.call (.func 13) #[]), none⟩, ⟨(some 58), (.mv (.tmp 57)), none⟩, ⟨(some 59), (.mv (.tmp 11)), (some ((some 58), true))⟩, ⟨(some 60), (.mv (.tmp 13)), (some ((some 58), true))⟩, ⟨(some 61), (.bin .eql (.tmp 59) (.tmp 60)), (some ((some 58), true))⟩, ⟨(some 62), (.pick (.tmp 58) (.tmp 61) (.const (.bool false))), none⟩, ⟨(some 63), (.mv (.tmp 62)), none⟩, ⟨(some 64), (.mv (.tmp 12)), (some ((some 63), true))⟩, ⟨(some 65), (.mv (.tmp 14)), (some ((some 63), true))⟩, ⟨(some 66), (.bin .eql (.tmp 64) (.tmp 65)), (some ((some 63), true))⟩, ⟨(some 67), (.pick (.tmp 63) (.tmp 66) (.const (.bool false))), none⟩, ⟨(some 68), (.mv (.tmp 67)), none⟩, ⟨(some 69), (.mv (.tmp 16)), (some ((some 68), true))⟩, ⟨(some 70), (.bin .eql (.tmp 69) (.const (.int .i64 (1)))), (some ((some 68), true))⟩, ⟨(some 71), (.pick (.tmp 68) (.tmp 70) (.const (.bool false))), none⟩, ⟨(some 72), (.mv (.tmp 71)), none⟩, ⟨(some 73), (.mv (.tmp 15)), (some ((some 72), true))⟩, ⟨(some 74), (.lenL (.tmp 73)), (some ((some 72), true))⟩, ⟨(some 75), (.bin .eql (.tmp 74) (.const (.int .i64 (0)))), (some ((some 72), true))⟩, ⟨(some 76), (.pick (.tmp 72) (.tmp 75) (.const (.bool false))), none⟩, ⟨(some 6), (.mv (.tmp 76)), none⟩]) .ret) .skip)) (.seq (.ops [⟨(some 78), (.mv (.tmp 15)), none⟩, ⟨(some 79), (.call (.func 19) #[(.tmp 78)]), none⟩, ⟨(some 77), (.mv (.tmp 79)), none⟩, ⟨(some 80), (.extract (.tmp 77) 0), none⟩, ⟨(some 81), (.extract (.tmp 77) 1), none⟩, ⟨(some 17), (.mv (.tmp 80)), none⟩, ⟨(some 18), (.mv (.tmp 81)), none⟩]) (.seq (.ops [⟨(some 82), (.call (.func 13) #[]), none⟩, ⟨(some 83), (.mv (.tmp 82)), none⟩, ⟨(some 84), (.mv (.tmp 11)), (some ((some 83), true))⟩, ⟨(some 85), (.mv (.tmp 13)), (some ((some 83), true))⟩, ⟨(some 86), (.bin .eql (.tmp 84) (.tmp 85)), (some ((some 83), true))⟩, ⟨(some 87), (.pick (.tmp 83) (.tmp 86) (.const (.bool false))), none⟩, ⟨(some 88), (.mv (.tmp 87)), none⟩, ⟨(some 89), (.mv (.tmp 12)), (some ((some 88), true))⟩, ⟨(some 90), (.mv (.tmp 14)), (some ((some 88), true))⟩, ⟨(some 91), (.bin .eql (.tmp 89) (.tmp 90)), (some ((some 88), true))⟩, ⟨(some 92), (.pick (.tmp 88) (.tmp 91) (.const (.bool false))), none⟩, ⟨(some 93), (.mv (.tmp 92)), none⟩, ⟨(some 94), (.mv (.tmp 16)), (some ((some 93), true))⟩, ⟨(some 95), (.bin .eql (.tmp 94) (.const (.int .i64 (0)))), (some ((some 93), true))⟩, ⟨(some 96), (.pick (.tmp 93) (.tmp 95) (.const (.bool false))), none⟩, ⟨(some 97), (.mv (.tmp 96)), none⟩, ⟨(some 98), (.mv (.tmp 18)), (some ((some 97), true))⟩, ⟨(some 99), (.bin .eql (.tmp 98) (.const (.int .i64 (0)))), (some ((some 97), true))⟩, ⟨(some 100), (.pick (.tmp 97) (.tmp 99) (.const (.bool false))), none⟩, ⟨(some 101), (.mv (.tmp 100)), none⟩, ⟨(some 102), (.mv (.tmp 17)), (some ((some 101), true))⟩, ⟨(some 103), (.mv (.tmp 2)), (some ((some 101), true))⟩, ⟨(some 104), (.bin .eql (.tmp 102) (.tmp 103)), (some ((some 101), true))⟩, ⟨(some 105), (.pick (.tmp 101) (.tmp 104) (.const (.bool false))), none⟩, ⟨(some 106), (.mv (.tmp 105)), none⟩, ⟨(some 107), (.mv (.tmp 15)), (some ((some 106), true))⟩, ⟨(some 108), (.lenL (.tmp 107)), (some ((some 106), true))⟩, ⟨(some 109), (.mv (.tmp 2)), (some ((some 106), true))⟩, ⟨(some 110), (.lenS (.tmp 109)), (some ((some 106), true))⟩, ⟨(some 111), (.bin .quo (.tmp 110) (.const (.int .i64 (50)))), (some ((some 106), true))⟩, ⟨(some 112), (.bin .add (.tmp 111) (.const (.int .i64 (1)))), (some ((some 106), true))⟩, ⟨(some 113), (.bin .leq (.tmp 108) (.tmp 112)), (some ((some 106), true))⟩, ⟨(some 114), (.pick (.tmp 106) (.tmp 113) (.const (.bool false))), none⟩, ⟨(some 115), (.mv (.tmp 114)), none⟩, ⟨(some 116), (.mv (.tmp 2)), (some ((some 115), true))⟩, ⟨(some 117), (.bin .neq (.tmp 116) (.const (.string (⟨#[]⟩ : ByteArray)))), (some ((some 115), true))⟩, ⟨(some 118), (.mv (.tmp 117)), (some ((some 115), true))⟩, ⟨(some 119), (.mv (.tmp 15)), (some ((some 118), false))⟩, ⟨(some 120), (.lenL (.tmp 119)), (some ((some 118), false))⟩, ⟨(some 121), (.bin .eql (.tmp 120) (.const (.int .i64 (0)))), (some ((some 118), false))⟩, ⟨(some 122), (.pick (.tmp 118) (.const (.bool true)) (.tmp 121)), (some ((some 115), true))⟩, ⟨(some 123), (.pick (.tmp 115) (.tmp 122) (.const (.bool false))), none⟩, ⟨(some 6), (.mv (.tmp 123)), none⟩]) .ret))))))))))⟩
theorem a5_eq : compFunc Tryd.prog [0] 5 = some a5 := by kernel_rfl
def PT5 : List (PC KK GG) := [(pc13), (pc14), (pc17), (pc18), (pc19), (pc20), (pc21)]
def PQ5 : List (PP KK GG) := []
def L5 : List Lh := [⟨1663118, [(2, .as), (0, .as), (38, .as)], ⟨[.bool, (.sl (.pair .str (.pair (.int .i64) (.pair (.int .i64) (.pair (.int .i64) .unit))))), .str], [(2, .v (.a (.pu 0))), (0, .v (.a (.pu 1))), (38, .v (.a (.pu 2)))], []⟩, []⟩, ⟨1000221, [(6, .as)], ⟨[.bool], [(6, .v (.a (.pu 0)))], []⟩, []⟩]
def X5 : List Xh := [⟨.r, [(6, .as)], ⟨[.bool], [(6, .v (.a (.pu 0)))], []⟩⟩]
def F5 (k : Nat) : List (ByteArray × Int × Int × Int × Unit) × Int × ByteArray × Unit → Option (Bool × Unit) := fun (e : List (ByteArray × Int × Int × Int × Unit) × Int × ByteArray × Unit) =>
  (F17 k (e.fst, e.snd.fst, ())).bind fun (x : Int × Int × Unit) =>
    (F14 k (e.fst, e.snd.fst, ())).bind fun (x_1 : Int × Int × Unit) =>
      (if (x.fst != x_1.fst) = true then some (Sum.inl (true, e.fst, e.snd.snd.fst, ()))
          else some (Sum.inl (x.snd.fst != x_1.snd.fst, e.fst, e.snd.snd.fst, ()))).bind
        (sumE
          (fun (e : Bool × List (ByteArray × Int × Int × Int × Unit) × ByteArray × Unit) =>
            if e.fst = true then some (false, ())
            else
              (F18 k (e.snd.fst, ())).bind fun (x : ByteArray × Int × Unit) =>
                (F19 k (e.snd.fst, ())).bind fun (x_2 : ByteArray × Int × Unit) =>
                  (F20 k (e.snd.snd.fst, ())).bind
                    fun (x_3 : List (ByteArray × Int × Int × Int × Unit) × Int × Unit) =>
                    (F21 k (e.snd.snd.fst, (100000 : Int), ())).bind fun (x_4 : Bool × Unit) =>
                      if (!x_4.fst) = true then
                        ((F13 k ()).bind fun (x_5 : Bool × Unit) =>
                              if x_5.fst = true then
                                if (x.fst.toList == x_2.fst.toList) = true then
                                  if (x.snd.fst == x_2.snd.fst) = true then
                                    if (x_3.snd.fst == (1 : Int)) = true then
                                      some (Sum.inl ((↑x_3.fst.length : Int) == (0 : Int), ()))
                                    else some (Sum.inl (false, ()))
                                  else some (Sum.inl (false, ()))
                                else some (Sum.inl (false, ()))
                              else some (Sum.inl (false, ()))).bind
                          (sumE (fun (e : Bool × Unit) => some (e.fst, ())) emE)
                      else
                        (F19 k (x_3.fst, ())).bind fun (x_5 : ByteArray × Int × Unit) =>
                          ((F13 k ()).bind fun (x_6 : Bool × Unit) =>
                                if x_6.fst = true then
                                  if (x.fst.toList == x_2.fst.toList) = true then
                                    if (x.snd.fst == x_2.snd.fst) = true then
                                      if (x_3.snd.fst == (0 : Int)) = true then
                                        if (x_5.snd.fst == (0 : Int)) = true then
                                          if (x_5.fst.toList == e.snd.snd.fst.toList) = true then
                                            (if (50 : Int) = (0 : Int) then none
                                                else
                                                  some
                                                    (IntKind.i64.wrap
                                                      ((↑e.snd.snd.fst.size : Int).tdiv (50 : Int)))).bind
                                              fun (x : Int) =>
                                              if
                                                  decide ((↑x_3.fst.length : Int) ≤ IntKind.i64.wrap (x + (1 : Int))) =
                                                    true then
                                                if (!e.snd.snd.fst.toList == (⟨#[]⟩ : ByteArray).toList) = true then
                                                  some (Sum.inl (true, ()))
                                                else some (Sum.inl ((↑x_3.fst.length : Int) == (0 : Int), ()))
                                              else some (Sum.inl (false, ()))
                                          else some (Sum.inl (false, ()))
                                        else some (Sum.inl (false, ()))
                                      else some (Sum.inl (false, ()))
                                    else some (Sum.inl (false, ()))
                                  else some (Sum.inl (false, ()))
                                else some (Sum.inl (false, ()))).bind
                            (sumE (fun (e : Bool × Unit) => some (e.fst, ())) emE))
          emE)
theorem F5_eq (k : Nat) : funT (K := KK) (G := GG) PT5 TTPvRo PQ5 L5 k 400 a5 [((.sl (.pair .str (.pair (.int .i64) (.pair (.int .i64) (.pair (.int .i64) .unit)))))), ((.int .i64)), .str] [(.bool, none)] X5 = some (F5 k) := by kernel_rfl
def pc5 : PC KK GG := ⟨5, [((.sl (.pair .str (.pair (.int .i64) (.pair (.int .i64) (.pair (.int .i64) .unit)))))), ((.int .i64)), .str], [(.bool, none)], F5, fun k H Z e vs h1 h2 h3 r h4 => fun_ok a5_eq (xo_none (f := 5) (of_decide_eq_true (by kernel_rfl))) GG_keep (of_decide_eq_true (by kernel_rfl)) (F5_eq k) H Z e vs h1 h2 h3 r h4⟩
end Go.Proofs.YtehbekgmemebjaaDoorEv
namespace Go.Proofs.YtehbekgmemebjaaDoorEv
open Go Go.RowKit Go.Proofs.YtehbekgmemebjaaDoor.PAll.H Go.Proofs.YtehbekgmemebjaaDoorW.PrintWords
set_option linter.unusedVariables false
set_option linter.unusedSimpArgs false
theorem F14_none {l : List Nd} {i : Int} (hs : Short l) (h : lens (mS l) = none) : Evn (fun k => F14 k (l, i, ())) (0, 20, ()) := by
  unfold F14
  simp only []
  exact Evn.bind (F12_none hs h) (Evn.now _)
theorem F14_out {l : List Nd} {o : List Int} {i : Int} (hs : Short l) (h : lens (mS l) = some o) (hi : i < 0 ∨ wholeL o ≤ i) : Evn (fun k => F14 k (l, i, ())) (0, 1, ()) := by
  unfold F14
  simp only []
  refine Evn.bind (F12_some hs h) (Evn.eq fun k => ?_)
  simp only [bne_self_eq_false, Bool.false_eq_true, if_false]
  by_cases h0 : i < 0
  · simp only [decide_eq_true h0, if_true, Option.bind_some, sumE]
  · simp only [decide_eq_false h0, Bool.false_eq_true, if_false, decide_eq_true (show i ≥ wholeL o by omega), Option.bind_some, sumE, if_true]
theorem short_lens {l : List Nd} {o : List Int} (h : lens (mS l) = some o) : Short l := by
  intro x hx
  obtain ⟨j, hj⟩ := List.mem_iff_getElem?.1 hx
  by_cases h0 : x.1.size = 0
  · omega
  · obtain ⟨v, hs, _⟩ := (rope_of h).node j (toS x) (by rw [List.getElem?_map, hj]; rfl)
    unfold stepL at hs
    rw [if_neg (show ¬ (toS x).f0.size = 0 from h0)] at hs
    split at hs
    · rename_i hc
      have : x.1.size ≤ 100 := hc.1
      omega
    · cases hs
theorem str_bytes (s : ByteArray) : strOfNums (bytesOf s) = s := by
  obtain ⟨⟨l⟩⟩ := s
  show (⟨((l.map fun b : UInt8 => (b.toNat : Int)).map fun n => UInt8.ofNat n.toNat).toArray⟩ : ByteArray) = _
  rw [List.map_map]
  have : ((fun n : Int => UInt8.ofNat n.toNat) ∘ fun b : UInt8 => (b.toNat : Int)) = id := by
    funext b
    simp
  rw [this, List.map_id]
theorem wordB_iff (s : ByteArray) : wordB s 100000 = true ↔ checkS s = 0 := by
  rw [checkS_ok]
  unfold wordB
  rw [Bool.and_eq_true, decide_eq_true_eq]
  constructor
  · rintro ⟨a, b⟩
    exact ⟨by omega, a⟩
  · rintro ⟨a, b⟩
    exact ⟨b, by omega⟩
theorem law_letters {l : List Nd} {i : Int} {w : ByteArray} (hs : Short l) (hw : (w.size : Int) ≤ 9223372036854775807) : Evn (fun k => F5 k (l, i, w, ())) (true, ()) := by
  unfold F5
  simp only []
  obtain ⟨c, e, h17, h14⟩ : ∃ c e, Evn (fun k => F17 k (l, i, ())) (c, e, ()) ∧ Evn (fun k => F14 k (l, i, ())) (c, e, ()) := by
    cases h : lens (mS l) with
    | none => exact ⟨_, _, F17_none h, F14_none hs h⟩
    | some o =>
      by_cases hi : i < 0 ∨ wholeL o ≤ i
      · exact ⟨_, _, F17_out h hi, F14_out hs h hi⟩
      · obtain ⟨c, hc⟩ := letter_in h (i := i) (by omega) (by omega)
        exact ⟨_, _, F17_in h (by omega) (by omega) hc, F14_in hs h (by omega) (by omega) hc⟩
  obtain ⟨s, f, h18, h19⟩ : ∃ s f, Evn (fun k => F18 k (l, ())) (s, f, ()) ∧ Evn (fun k => F19 k (l, ())) (s, f, ()) := by
    cases h : lens (mS l) with
    | none => exact ⟨_, _, F18_none h, F19_none hs h⟩
    | some o =>
      by_cases hl : wholeL o > 100000
      · exact ⟨_, _, F18_long h hl, F19_long hs h hl⟩
      · exact ⟨_, _, F18_ok h hl, F19_ok hs h hl⟩
  refine Evn.bind h17 (Evn.bind h14 ?_)
  refine Evn.bind (a := Sum.inl (false, l, w, ())) (Evn.eq fun k => by simp) ?_
  simp only [sumE, Bool.false_eq_true, if_false]
  refine Evn.bind h18 (Evn.bind h19 ?_)
  by_cases hc : checkS w = 0
  · obtain ⟨o, q1, q2, q3, q4⟩ := ofS_ok hc
    have hsz := (checkS_ok.1 hc).1
    refine Evn.bind (a := (ofS w, 0, ())) (Evn.eq fun k => by unfold F20; rw [if_pos hc]) ?_
    refine Evn.bind (F21_ev w 100000 hw) ?_
    simp only [(wordB_iff w).2 hc, Bool.not_true, Bool.false_eq_true, if_false]
    refine Evn.bind (F19_ok (short_lens q1) q1 (by omega)) ?_
    rw [q2, str_bytes]
    refine Evn.eq fun k => ?_
    have hF : F13 k () = some (true, ()) := rfl
    have h50 : ¬ (50 : Int) = 0 := by decide
    have ht : Int.tdiv (w.size : Int) 50 = (w.size : Int) / 50 := Int.tdiv_eq_ediv_of_nonneg (by omega)
    have hd : ((ofS w).length : Int) ≤ (w.size : Int) / 50 + 1 := q4
    simp only [hF, Option.bind_some, if_true, beq_self_eq_true, if_neg h50, ht, i64w (show -9223372036854775808 ≤ (w.size : Int) / 50 by omega) (show (w.size : Int) / 50 ≤ 9223372036854775807 by omega), i64w (show -9223372036854775808 ≤ (w.size : Int) / 50 + 1 by omega) (show (w.size : Int) / 50 + 1 ≤ 9223372036854775807 by omega), decide_eq_true hd, toL_eq]
    by_cases h0 : w.size = 0
    · rw [ofS_nil h0]
      simp [h0, sumE]
    · simp [h0, sumE]
  · refine Evn.bind (a := ([], 1, ())) (Evn.eq fun k => by unfold F20; rw [if_neg hc]) ?_
    refine Evn.bind (F21_ev w 100000 hw) ?_
    have hb : wordB w 100000 = false := by
      cases hb : wordB w 100000 with
      | false => rfl
      | true => exact absurd ((wordB_iff w).1 hb) hc
    refine Evn.eq fun k => ?_
    have hF : F13 k () = some (true, ()) := rfl
    simp [hb, hF, sumE]
end Go.Proofs.YtehbekgmemebjaaDoorEv
namespace Go.Proofs.YtehbekgmemebjaaDoor.PAll
open Go Go.RowKit
theorem glob_cells {w : World} {fuel : Nat} {cs : Array Value} {p : List MemPlace} (hd : DataW.trod (fun _ => ()) Tryd.prog w 0 (fun _ => true) false fuel 106 cs.toList = some (Rows.laid_cayley_word_letters, p)) :
    cs = #[.int .u8 97, .int .u8 65, .int .u8 98, .int .u8 66, .int .u8 99, .int .u8 67, .int .u8 100, .int .u8 68, .int .u8 101, .int .u8 69, .int .u8 102, .int .u8 70, .int .u8 103, .int .u8 71, .int .u8 104, .int .u8 72] := by
  obtain ⟨xs, m, e, hx, hl, hn, hel⟩ := DataW.trod_array Tryd.underlying106 hd
  have c5 : Tryd.prog.cellsOf 5 = 1 := by kernel_rfl
  have c106 : Tryd.prog.cellsOf 106 = 16 := by kernel_rfl
  rw [c106] at hl
  simp only [Prod.mk.injEq, Rows.laid_cayley_word_letters, DataW.agg.injEq] at hx
  have hlx : xs.length = 16 := hn
  apply Array.toList_inj.1
  apply List.ext_getElem?
  intro i
  by_cases hi : i < 16
  · have h1 := hel i hi
    rw [c5] at h1
    have hx1 : xs[i]? = some (xs[i]'(by omega)) := List.getElem?_eq_getElem (by omega)
    rw [hx1] at h1
    obtain ⟨k, e1, e2, _⟩ := DataW.trod_int Tryd.underlying5 h1
    have e3 : cs.toList[i]? = some (.int .u8 k) := by
      have := congrArg (fun l => l[0]?) e1
      simpa [List.getElem?_take, List.getElem?_drop] using this
    rw [e3]
    have e4 : (xs.map (·.1))[i]? = some (.lit (.int .u8 k)) := by rw [List.getElem?_map, hx1, e2]; rfl
    rw [← hx.1] at e4
    have h16 : i = 0 ∨ i = 1 ∨ i = 2 ∨ i = 3 ∨ i = 4 ∨ i = 5 ∨ i = 6 ∨ i = 7 ∨ i = 8 ∨ i = 9 ∨ i = 10 ∨ i = 11 ∨ i = 12 ∨ i = 13 ∨ i = 14 ∨ i = 15 := by omega
    rcases h16 with rfl | rfl | rfl | rfl | rfl | rfl | rfl | rfl | rfl | rfl | rfl | rfl | rfl | rfl | rfl | rfl <;>
    · have e5 := DataW.lit.inj (Option.some.inj e4)
      cases e5
      rfl
  · rw [List.getElem?_eq_none (by omega), List.getElem?_eq_none (by simp; omega)]
end Go.Proofs.YtehbekgmemebjaaDoor.PAll
