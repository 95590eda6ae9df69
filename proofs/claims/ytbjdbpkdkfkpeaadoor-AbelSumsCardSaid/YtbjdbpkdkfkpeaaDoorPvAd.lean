import Derived.Test.YtbjdbpkdkfkpeaaDoorPvAb
import Derived.Test.YtbjdbpkdkfkpeaaDoorPvN
import Derived.Test.YtbjdbpkdkfkpeaaDoorProg
namespace Go.Proofs.YtbjdbpkdkfkpeaaDoorEv
open Go
set_option linter.unusedVariables false
set_option linter.unusedSimpArgs false
noncomputable section
def F33 (k : Nat) (e : Int × ByteArray × Unit) : Option (List Int × Int × Unit) :=
  if checkK e.1 e.2.1 = 0 then (F51 k (e.2.1, ())).bind fun l => some (l.1.take e.1.toNat, 0, ()) else some ([], 1, ())
theorem reps_ints {H : Hp} {Z : Nat → Prop} : ∀ {l : List Int} {ps : List (List Value)}, All2 (Rep H Z (.int .i64)) l ps → ps.flatten = l.map (Value.int .i64)
  | [], [], _ => rfl
  | a :: l, p :: ps, ⟨h1, h2⟩ => by
    have : p = [.int .i64 a] := h1
    rw [this, List.flatten_cons, reps_ints h2]; rfl
  | [], _ :: _, h => h.elim
  | _ :: _, [], h => h.elim
theorem ints_reps {H : Hp} {Z : Nat → Prop} : ∀ (l : List Int), All2 (Rep H Z (.int .i64)) l (l.map fun x => [Value.int .i64 x])
  | [] => trivial
  | a :: l => ⟨rfl, ints_reps l⟩
theorem ints_flat : ∀ (l : List Int), (l.map fun x => [Value.int .i64 x]).flatten = l.map (Value.int .i64)
  | [] => rfl
  | a :: l => by rw [List.map_cons, List.flatten_cons, ints_flat l]; rfl
theorem checkK_0 {k : Int} {s : ByteArray} (h : checkK k s = 0) : 1 ≤ k ∧ k ≤ 8 := by
  unfold checkK at h
  split at h
  · cases h
  · omega
theorem pc33_ok : PCok KK GG 33 [.int .i64, .str] [(.sl (.int .i64), none), (.int .i64, none)] F33 := by
  intro k H Z e vs hG hz ha r hr
  obtain ⟨v, w, rfl, hv, hw⟩ := args2 ha
  obtain ⟨e1, e2, _⟩ := e
  rw [repv_int] at hv
  rw [repv_str] at hw
  simp only at hv hw
  subst hv hw
  unfold F33 at hr
  simp only at hr
  split at hr
  · rename_i hc
    have hk := checkK_0 hc
    obtain ⟨H1, h1, h2⟩ := GK_check xo_none e1 e2 H hG
    rw [hc] at h1
    cases hf : F51 k (e2, ()) with
    | none => rw [hf] at hr; cases hr
    | some l =>
      rw [hf] at hr
      cases hr
      have hG1 : GG H1 := GG_keep _ _ hG h2
      obtain ⟨v, H2, Z2, ws, c1, c2, c3, c4, c5, c6, c7⟩ := pc51.ok k H1 Z (e2, ()) [.string e2] hG1 (fun b hb => Nat.lt_of_lt_of_le (hz b hb) h2.1) ⟨repv_str.2 rfl, trivial⟩ l hf
      obtain ⟨w1, rfl⟩ : ∃ w1, ws = [w1] := by
        match ws, c7 with
        | [w1], _ => exact ⟨w1, rfl⟩
        | [], h => exact h.elim
        | _ :: _ :: _, h => exact h.2.elim
      obtain ⟨hr1, _⟩ := c7
      unfold RepV at hr1
      rw [if_pos (show (Ty.arr 8 (Ty.int IntKind.i64)).isAgg = true from rfl)] at hr1
      obtain ⟨cs, rfl, ps, hl8, rfl, hps⟩ := hr1
      have hl8 : l.1.length = 8 := hl8
      rw [reps_ints hps] at c6
      have c6 : v = .agg (l.1.map (Value.int .i64)).toArray := c6
      subst c6
      obtain ⟨H3, d1, d2, d3, d4⟩ := K33b e1 e2 H H1 l.1 hk hl8 h1 H2 c1
      have hlen : (l.1.take e1.toNat).length = e1.toNat := by rw [List.length_take, hl8]; omega
      have k12 : Keep H H2 := Keep.trans h2 c2
      have k13 : Keep H H3 := Keep.trans k12 d2
      refine ⟨_, H3, fun b => Z b ∨ b = H2.size + 2, [_, _], d1, k13, fun b hb => .inl hb, fun b hb => ?_, fun b hb hlt => ?_, rfl, ?_, repv_int.2 rfl, trivial⟩
      · rcases hb with hb | rfl
        · exact Nat.lt_of_lt_of_le (hz b hb) k13.1
        · exact d4
      · rcases hb with hb | rfl
        · exact hb
        · have := k12.1; omega
      · unfold RepV
        rw [if_neg (by simp [Ty.isAgg])]
        refine ⟨some ⟨H2.size + 2, 0, none⟩, e1.toNat, by rw [hlen], .inr ⟨H2.size + 2, 0, none, _, _, _, (l.1.take e1.toNat).map fun x => [Value.int .i64 x], [], rfl, .inr rfl, d3, ?_, ints_reps _, .inr (.inr rfl), Nat.one_pos, by rw [hlen]; exact Nat.le_refl _⟩⟩
        rw [List.drop_zero, ints_flat, List.append_nil]
  · rename_i hc
    cases hr
    obtain ⟨H', h1, h2⟩ := K33a e1 e2 H hG hc
    refine ⟨_, H', Z, [_, _], h1, h2, fun b hb => hb, fun b hb => Nat.lt_of_lt_of_le (hz b hb) h2.1, fun b hb _ => hb, rfl, ?_, repv_int.2 rfl, trivial⟩
    unfold RepV
    rw [if_neg (by simp [Ty.isAgg])]
    exact ⟨none, 0, rfl, .inl ⟨rfl, fun _ => rfl⟩⟩
def pc33 : PC KK GG := ⟨33, [.int .i64, .str], [(.sl (.int .i64), none), (.int .i64, none)], F33, pc33_ok⟩
end
end Go.Proofs.YtbjdbpkdkfkpeaaDoorEv
namespace Go.Proofs.YtbjdbpkdkfkpeaaDoorEv
open Go
set_option linter.unusedVariables false
set_option linter.unusedSimpArgs false
set_option maxRecDepth 100000
def TTPvAd : Nat → Option Ty
  | _ => none
def a10 : AFunc := ⟨98, [(.tmp 6)], (.seq (.ops [⟨(some 6), (.mv (.const (.bool false))), none⟩]) (.seq (.ops [⟨(some 17), (.mv (.tmp 0)), none⟩, ⟨(some 18), (.mv (.tmp 1)), none⟩, ⟨(some 19), (.call (.func 33) #[(.tmp 17), (.tmp 18)]), none⟩, ⟨(some 16), (.mv (.tmp 19)), none⟩, ⟨(some 20), (.extract (.tmp 16) 0), none⟩, ⟨(some 21), (.extract (.tmp 16) 1), none⟩, ⟨(some 7), (.mv (.tmp 20)), none⟩, ⟨(some 8), (.mv (.tmp 21)), none⟩]) (.seq (.ops [⟨(some 23), (.mv (.tmp 0)), none⟩, ⟨(some 24), (.mv (.tmp 1)), none⟩, ⟨(some 25), (.call (.func 34) #[(.tmp 23), (.tmp 24)]), none⟩, ⟨(some 22), (.mv (.tmp 25)), none⟩, ⟨(some 26), (.extract (.tmp 22) 0), none⟩, ⟨(some 27), (.extract (.tmp 22) 1), none⟩, ⟨(some 9), (.mv (.tmp 26)), none⟩, ⟨(some 10), (.mv (.tmp 27)), none⟩]) (.seq (.ops [⟨(some 29), (.mv (.tmp 0)), none⟩, ⟨(some 30), (.mv (.tmp 2)), none⟩, ⟨(some 31), (.call (.func 33) #[(.tmp 29), (.tmp 30)]), none⟩, ⟨(some 28), (.mv (.tmp 31)), none⟩, ⟨(some 32), (.extract (.tmp 28) 0), none⟩, ⟨(some 33), (.extract (.tmp 28) 1), none⟩, ⟨(some 11), (.mv (.tmp 32)), none⟩, ⟨(some 12), (.mv (.tmp 33)), none⟩]) (.seq (.ops [⟨(some 35), (.mv (.tmp 0)), none⟩, ⟨(some 36), (.mv (.tmp 1)), none⟩, ⟨(some 37), (.mv (.tmp 2)), none⟩, ⟨(some 38), (.bin .add (.tmp 36) (.tmp 37)), none⟩, ⟨(some 39), (.call (.func 33) #[(.tmp 35), (.tmp 38)]), none⟩, ⟨(some 34), (.mv (.tmp 39)), none⟩, ⟨(some 40), (.extract (.tmp 34) 0), none⟩, ⟨(some 41), (.extract (.tmp 34) 1), none⟩, ⟨(some 13), (.mv (.tmp 40)), none⟩, ⟨(some 14), (.mv (.tmp 41)), none⟩]) (.seq (.seq (.ops [⟨(some 42), (.call (.func 13) #[]), none⟩, ⟨(some 43), (.un .not (.tmp 42)), none⟩, ⟨(some 44), (.mv (.tmp 43)), none⟩, ⟨(some 45), (.mv (.tmp 8)), (some ((some 44), false))⟩, ⟨(some 46), (.mv (.tmp 10)), (some ((some 44), false))⟩, ⟨(some 47), (.bin .neq (.tmp 45) (.tmp 46)), (some ((some 44), false))⟩, ⟨(some 48), (.pick (.tmp 44) (.const (.bool true)) (.tmp 47)), none⟩, ⟨(some 49), (.mv (.tmp 48)), none⟩, ⟨(some 50), (.mv (.tmp 7)), (some ((some 49), false))⟩, ⟨(some 51), (.mv (.tmp 9)), (some ((some 49), false))⟩, ⟨(some 52), (.call (.func 23) #[(.tmp 50), (.tmp 51)]), (some ((some 49), false))⟩, ⟨(some 53), (.un .not (.tmp 52)), (some ((some 49), false))⟩, ⟨(some 54), (.pick (.tmp 49) (.const (.bool true)) (.tmp 53)), none⟩]) (.cond (.tmp 54) (.seq (.ops [⟨(some 6), (.mv (.const (.bool false))), none⟩]) .ret) .skip)) (.seq (.seq (.ops [⟨(some 55), (.mv (.tmp 8)), none⟩, ⟨(some 56), (.bin .neq (.tmp 55) (.const (.int .i64 (0)))), none⟩, ⟨(some 57), (.mv (.tmp 56)), none⟩, ⟨(some 58), (.mv (.tmp 12)), (some ((some 57), false))⟩, ⟨(some 59), (.bin .neq (.tmp 58) (.const (.int .i64 (0)))), (some ((some 57), false))⟩, ⟨(some 60), (.pick (.tmp 57) (.const (.bool true)) (.tmp 59)), none⟩, ⟨(some 61), (.mv (.tmp 60)), none⟩, ⟨(some 62), (.mv (.tmp 1)), (some ((some 61), false))⟩, ⟨(some 63), (.lenS (.tmp 62)), (some ((some 61), false))⟩, ⟨(some 64), (.mv (.tmp 2)), (some ((some 61), false))⟩, ⟨(some 65), (.lenS (.tmp 64)), (some ((some 61), false))⟩, ⟨(some 66), (.bin .add (.tmp 63) (.tmp 65)), (some ((some 61), false))⟩, ⟨(some 67), (.bin .gtr (.tmp 66) (.const (.int .i64 (100000)))), (some ((some 61), false))⟩, ⟨(some 68), (.pick (.tmp 61) (.const (.bool true)) (.tmp 67)), none⟩]) (.cond (.tmp 68) (.seq (.ops [⟨(some 6), (.mv (.const (.bool true))), none⟩]) .ret) .skip)) (.seq (.seq (.ops [⟨(some 15), (.mv (.const (.int .i64 (0)))), none⟩]) (.block 0 (.loop (.seq (.seq (.ops [⟨(some 69), (.mv (.tmp 15)), none⟩, ⟨(some 70), (.mv (.tmp 0)), none⟩, ⟨(some 71), (.bin .lss (.tmp 69) (.tmp 70)), none⟩]) (.cond (.tmp 71) .skip (.exit 0))) (.seq (.block 1 (.seq (.drawn [⟨⟨(some 74), (.mv (.tmp 14)), none⟩, ⟨0⟩, false⟩, ⟨⟨(some 75), (.bin .neq (.tmp 74) (.const (.int .i64 (0)))), none⟩, ⟨1⟩, false⟩, ⟨⟨(some 76), (.mv (.tmp 75)), none⟩, ⟨3⟩, false⟩, ⟨⟨(some 77), (.mv (.tmp 13)), (some ((some 76), false))⟩, ⟨7⟩, false⟩, ⟨⟨(some 78), (.lenL (.tmp 77)), (some ((some 76), false))⟩, ⟨15⟩, false⟩, ⟨⟨(some 79), (.mv (.tmp 0)), (some ((some 76), false))⟩, ⟨7⟩, false⟩, ⟨⟨(some 80), (.bin .neq (.tmp 78) (.tmp 79)), (some ((some 76), false))⟩, ⟨63⟩, false⟩, ⟨⟨(some 81), (.pick (.tmp 76) (.const (.bool true)) (.tmp 80)), none⟩, ⟨127⟩, false⟩, ⟨⟨(some 82), (.mv (.tmp 81)), none⟩, ⟨255⟩, false⟩, ⟨⟨(some 83), (.mv (.tmp 13)), (some ((some 82), false))⟩, ⟨511⟩, false⟩, ⟨⟨(some 84), (.mv (.tmp 15)), (some ((some 82), false))⟩, ⟨511⟩, false⟩, ⟨⟨(some 85), (.ixS 1 (.tmp 83) (.tmp 84)), (some ((some 82), false))⟩, ⟨2047⟩, false⟩, ⟨⟨(some 86), (.load (.tmp 85)), (some ((some 82), false))⟩, ⟨4095⟩, false⟩, ⟨⟨(some 87), (.mv (.tmp 7)), (some ((some 82), false))⟩, ⟨511⟩, false⟩, ⟨⟨(some 88), (.mv (.tmp 15)), (some ((some 82), false))⟩, ⟨511⟩, false⟩, ⟨⟨(some 89), (.ixS 1 (.tmp 87) (.tmp 88)), (some ((some 82), false))⟩, ⟨25087⟩, false⟩, ⟨⟨(some 90), (.load (.tmp 89)), (some ((some 82), false))⟩, ⟨57855⟩, false⟩, ⟨⟨(some 91), (.mv (.tmp 11)), (some ((some 82), false))⟩, ⟨511⟩, false⟩, ⟨⟨(some 92), (.mv (.tmp 15)), (some ((some 82), false))⟩, ⟨511⟩, false⟩, ⟨⟨(some 93), (.ixS 1 (.tmp 91) (.tmp 92)), (some ((some 82), false))⟩, ⟨393727⟩, false⟩, ⟨⟨(some 94), (.load (.tmp 93)), (some ((some 82), false))⟩, ⟨918015⟩, false⟩, ⟨⟨(some 95), (.bin .add (.tmp 90) (.tmp 94)), (some ((some 82), false))⟩, ⟨2089471⟩, false⟩, ⟨⟨(some 96), (.bin .neq (.tmp 86) (.tmp 95)), (some ((some 82), false))⟩, ⟨4194303⟩, false⟩, ⟨⟨(some 97), (.pick (.tmp 82) (.const (.bool true)) (.tmp 96)), none⟩, ⟨8388607⟩, false⟩]) (.cond (.tmp 97) (.seq (.ops [⟨(some 6), (.mv (.const (.bool false))), none⟩]) .ret) .skip))) (.ops [⟨(some 72), (.mv (.tmp 15)), none⟩, ⟨(some 73), (.bin .add (.tmp 72) (.const (.int .i64 (1)))), none⟩, ⟨(some 15), (.mv (.tmp 73)), none⟩])))))) (.seq (.ops [⟨(some 6), (.mv (.const (.bool true))), none⟩]) .ret)))))))))⟩
theorem a10_eq : compFunc Tryd.prog [0] 10 = some a10 := by kernel_rfl
def PT10 : List (PC KK GG) := [(pc13), (pc33), (pc34), (pc23)]
def PQ10 : List (PP KK GG) := []
def L10 : List Lh := [⟨1139771, [(11, .as), (7, .as), (13, .as), (0, .as), (14, .as), (2, .as), (1, .as), (12, .as), (8, .as), (54, .as)], ⟨[.bool, (.int .i64), (.int .i64), .str, .str, (.int .i64), (.int .i64), (.sl (.int .i64)), (.sl (.int .i64)), (.sl (.int .i64))], [(11, .v (.a (.pu 0))), (7, .v (.a (.pu 1))), (13, .v (.a (.pu 2))), (0, .v (.a (.pu 3))), (14, .v (.a (.pu 4))), (2, .v (.a (.pu 5))), (1, .v (.a (.pu 6))), (12, .v (.a (.pu 7))), (8, .v (.a (.pu 8))), (54, .v (.a (.pu 9)))], []⟩, []⟩, ⟨1556845, [(11, .as), (7, .as), (13, .as), (0, .as), (14, .as), (68, .as)], ⟨[.bool, (.int .i64), (.int .i64), (.sl (.int .i64)), (.sl (.int .i64)), (.sl (.int .i64))], [(11, .v (.a (.pu 0))), (7, .v (.a (.pu 1))), (13, .v (.a (.pu 2))), (0, .v (.a (.pu 3))), (14, .v (.a (.pu 4))), (68, .v (.a (.pu 5)))], []⟩, []⟩, ⟨0, [(11, .as), (7, .as), (13, .as), (0, .as), (14, .as), (15, .as)], ⟨[(.int .i64), (.int .i64), (.int .i64), (.sl (.int .i64)), (.sl (.int .i64)), (.sl (.int .i64))], [(11, .v (.a (.pu 0))), (7, .v (.a (.pu 1))), (13, .v (.a (.pu 2))), (0, .v (.a (.pu 3))), (14, .v (.a (.pu 4))), (15, .v (.a (.pu 5)))], []⟩, [⟨.r, [(6, .as)], ⟨[.bool], [(6, .v (.a (.pu 0)))], []⟩⟩, ⟨.x 0, [], ⟨[], [], []⟩⟩]⟩]
def X10 : List Xh := [⟨.r, [(6, .as)], ⟨[.bool], [(6, .v (.a (.pu 0)))], []⟩⟩]
def F10 (k : Nat) : Int × ByteArray × ByteArray × Unit → Option (Bool × Unit) := fun (e : Int × ByteArray × ByteArray × Unit) =>
  (F33 k (e.fst, e.snd.fst, ())).bind fun (x : List Int × Int × Unit) =>
    (F34 k (e.fst, e.snd.fst, ())).bind fun (x_1 : List Int × Int × Unit) =>
      (F33 k (e.fst, e.snd.snd.fst, ())).bind fun (x_2 : List Int × Int × Unit) =>
        (if (↑(e.snd.fst.size + e.snd.snd.fst.size) : Int) > IntKind.i64.max then none
            else some (e.snd.fst ++ e.snd.snd.fst)).bind
          fun (x_3 : ByteArray) =>
          (F33 k (e.fst, x_3, ())).bind fun (x_4 : List Int × Int × Unit) =>
            ((F13 k ()).bind fun (x_5 : Bool × Unit) =>
                  if (!x_5.fst) = true then
                    some
                      (Sum.inl
                        (true, x.snd.fst, x_2.snd.fst, e.snd.fst, e.snd.snd.fst, x_4.snd.fst, e.fst, x_4.fst, x.fst,
                          x_2.fst, ()))
                  else
                    if (x.snd.fst != x_1.snd.fst) = true then
                      some
                        (Sum.inl
                          (true, x.snd.fst, x_2.snd.fst, e.snd.fst, e.snd.snd.fst, x_4.snd.fst, e.fst, x_4.fst, x.fst,
                            x_2.fst, ()))
                    else
                      (F23 k (x.fst, x_1.fst, ())).bind fun (x_6 : Bool × Unit) =>
                        some
                          (Sum.inl
                            (!x_6.fst, x.snd.fst, x_2.snd.fst, e.snd.fst, e.snd.snd.fst, x_4.snd.fst, e.fst, x_4.fst,
                              x.fst, x_2.fst, ()))).bind
              (sumE
                (fun
                    (e :
                      Bool × Int × Int × ByteArray × ByteArray × Int × Int × List Int × List Int × List Int × Unit) =>
                  if e.fst = true then some (false, ())
                  else
                    (if (e.snd.fst != (0 : Int)) = true then
                          some
                            (Sum.inl
                              (true, e.snd.snd.snd.snd.snd.fst, e.snd.snd.snd.snd.snd.snd.fst,
                                e.snd.snd.snd.snd.snd.snd.snd.fst, e.snd.snd.snd.snd.snd.snd.snd.snd.fst,
                                e.snd.snd.snd.snd.snd.snd.snd.snd.snd.fst, ()))
                        else
                          if (e.snd.snd.fst != (0 : Int)) = true then
                            some
                              (Sum.inl
                                (true, e.snd.snd.snd.snd.snd.fst, e.snd.snd.snd.snd.snd.snd.fst,
                                  e.snd.snd.snd.snd.snd.snd.snd.fst, e.snd.snd.snd.snd.snd.snd.snd.snd.fst,
                                  e.snd.snd.snd.snd.snd.snd.snd.snd.snd.fst, ()))
                          else
                            some
                              (Sum.inl
                                (decide
                                    (IntKind.i64.wrap
                                        ((↑e.snd.snd.snd.fst.size : Int) + (↑e.snd.snd.snd.snd.fst.size : Int)) >
                                      (100000 : Int)),
                                  e.snd.snd.snd.snd.snd.fst, e.snd.snd.snd.snd.snd.snd.fst,
                                  e.snd.snd.snd.snd.snd.snd.snd.fst, e.snd.snd.snd.snd.snd.snd.snd.snd.fst,
                                  e.snd.snd.snd.snd.snd.snd.snd.snd.snd.fst, ()))).bind
                      (sumE
                        (fun (e : Bool × Int × Int × List Int × List Int × List Int × Unit) =>
                          if e.fst = true then some (true, ())
                          else
                            (iter
                                  (fun (e : Int × Int × Int × List Int × List Int × List Int × Unit) =>
                                    if decide (e.fst < e.snd.snd.fst) = true then
                                      if (e.snd.fst != (0 : Int)) = true then some (Sum.inr (Sum.inl (false, ())))
                                      else
                                        if ((↑e.snd.snd.snd.fst.length : Int) != e.snd.snd.fst) = true then
                                          some (Sum.inr (Sum.inl (false, ())))
                                        else
                                          (atL e.snd.snd.snd.fst e.fst).bind fun (x : Int) =>
                                            (atL e.snd.snd.snd.snd.fst e.fst).bind fun (x_5 : Int) =>
                                              (atL e.snd.snd.snd.snd.snd.fst e.fst).bind fun (x_6 : Int) =>
                                                if (x != IntKind.i64.wrap (x_5 + x_6)) = true then
                                                  some (Sum.inr (Sum.inl (false, ())))
                                                else
                                                  some
                                                    (Sum.inl
                                                      (IntKind.i64.wrap (e.fst + (1 : Int)), e.snd.fst, e.snd.snd.fst,
                                                        e.snd.snd.snd.fst, e.snd.snd.snd.snd.fst,
                                                        e.snd.snd.snd.snd.snd.fst, ()))
                                    else some (Sum.inr (Sum.inr (Sum.inl ()))))
                                  k
                                  ((0 : Int), e.snd.fst, e.snd.snd.fst, e.snd.snd.snd.fst, e.snd.snd.snd.snd.fst,
                                    e.snd.snd.snd.snd.snd.fst, ())).bind
                              (sumE (fun (e : Bool × Unit) => some (e.fst, ()))
                                (sumE (fun (e : Unit) => some (true, ())) emE)))
                        emE))
                emE)
theorem F10_eq (k : Nat) : funT (K := KK) (G := GG) PT10 TTPvAd PQ10 L10 k 400 a10 [((.int .i64)), .str, .str] [(.bool, none)] X10 = some (F10 k) := by kernel_rfl
def pc10 : PC KK GG := ⟨10, [((.int .i64)), .str, .str], [(.bool, none)], F10, fun k H Z e vs h1 h2 h3 r h4 => fun_ok a10_eq (fun a H => xo_none 10 a H (of_decide_eq_true (by kernel_rfl))) GG_keep (of_decide_eq_true (by kernel_rfl)) (F10_eq k) H Z e vs h1 h2 h3 r h4⟩
end Go.Proofs.YtbjdbpkdkfkpeaaDoorEv
