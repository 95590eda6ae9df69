import Derived.Test.YtbjdbpkdkfkpeaaDoorPvAe
namespace Go.Proofs.YtbjdbpkdkfkpeaaDoorEv
open Go
set_option linter.unusedVariables false
set_option linter.unusedSimpArgs false
noncomputable section
theorem checkK_iff {k : Int} {s : ByteArray} : checkK k s = 0 ↔ (1 ≤ k ∧ k ≤ 8) ∧ s.size ≤ 100000 ∧ allLK k s = true := by
  unfold checkK
  by_cases h1 : k < 1 ∨ 8 < k
  · rw [if_pos h1]; omega
  · rw [if_neg h1]
    by_cases h2 : s.size ≤ 100000
    · rw [if_pos h2]
      by_cases h3 : allLK k s = true
      · rw [if_pos h3]; exact ⟨fun _ => ⟨by omega, h2, h3⟩, fun _ => rfl⟩
      · rw [if_neg h3]; exact ⟨fun h => by omega, fun h => absurd h.2.2 h3⟩
    · rw [if_neg h2]; exact ⟨fun h => by omega, fun h => absurd h.2.1 h2⟩
theorem allLK_all {k : Int} {s : ByteArray} (h : allLK k s = true) : ∀ c ∈ bytesB s, 0 ≤ index c ∧ gen c < k := fun c hc => isLK_gen.1 (List.all_eq_true.1 h c hc)
def rs (k : Int) (s : ByteArray) : List Int × Int × Unit := if checkK k s = 0 then (sumsE k.toNat (bytesB s), 0, ()) else ([], 1, ())
theorem F33_ev (k : Int) (s : ByteArray) : Evn (fun f => F33 f (k, s, ())) (rs k s) := by
  unfold F33 rs
  by_cases h : checkK k s = 0
  · obtain ⟨h1, h2, h3⟩ := checkK_iff.1 h
    simp only [h, if_true]
    refine Evn.bind (F51_ev h2 fun c hc => (allLK_all h3 c hc).1) (Evn.eq fun f => ?_)
    rw [sumsE_take (by omega)]
  · simp only [if_neg h]
    exact Evn.now _
theorem F34_ev (k : Int) (s : ByteArray) (hm : s.size ≤ 4611686018427387904) : Evn (fun f => F34 f (k, s, ())) (rs k s) := by
  unfold F34
  by_cases h1 : k < 1
  · have hr : rs k s = ([], 1, ()) := by unfold rs; rw [if_neg (fun h => by have := (checkK_iff.1 h).1; omega)]
    rw [hr]
    refine Evn.eq fun f => ?_
    simp only [decide_eq_true h1, if_true, Option.bind_some, sumE]
  by_cases h2 : k > 8
  · have hr : rs k s = ([], 1, ()) := by unfold rs; rw [if_neg (fun h => by have := (checkK_iff.1 h).1; omega)]
    rw [hr]
    refine Evn.eq fun f => ?_
    simp only [decide_eq_false h1, decide_eq_true h2, Bool.false_eq_true, if_false, if_true, Option.bind_some, sumE]
  obtain ⟨n, rfl⟩ : ∃ n : Nat, k = n := ⟨k.toNat, by omega⟩
  simp only [decide_eq_false h1, decide_eq_false h2, Bool.false_eq_true, if_false]
  refine Evn.bind (Evn.bind (F24_ev (k := n) ⟨by omega, by omega⟩ hm) (Evn.now _)) ?_
  by_cases h3 : allLK n s = true ∧ s.size ≤ 100000
  · have hc : checkK n s = 0 := checkK_iff.2 ⟨by omega, h3.2, h3.1⟩
    have hb : (allLK n s && decide ((s.size : Int) ≤ 100000)) = true := by rw [h3.1]; simp; omega
    have hr : rs n s = (sumsE n (bytesB s), 0, ()) := by unfold rs; rw [if_pos hc, Int.toNat_natCast]
    rw [hr]
    simp only [sumE, hb, Bool.not_true, Bool.false_eq_true, if_false]
    exact Evn.bind (F28_ev ⟨by omega, by omega⟩ h3.2 (allLK_all h3.1)) (Evn.now _)
  · have hb : (allLK n s && decide ((s.size : Int) ≤ 100000)) = false := by
      cases ha : allLK n s with
      | false => rfl
      | true => simp; have : ¬ s.size ≤ 100000 := fun h => h3 ⟨ha, h⟩; omega
    have hr : rs n s = ([], 1, ()) := by
      unfold rs
      rw [if_neg (fun h => h3 ⟨(checkK_iff.1 h).2.2, (checkK_iff.1 h).2.1⟩)]
    rw [hr]
    simp only [sumE, hb, Bool.not_false, if_true]
    exact Evn.now _
theorem F23_ev (l : List Int) (hl : l.length ≤ 100000) : Evn (fun f => F23 f (l, l, ())) (true, ()) := by
  unfold F23
  have hne : ((l.length : Int) != (l.length : Int)) = false := by simp
  simp only [hne, Bool.false_eq_true, if_false]
  refine Evn.bind (a := Sum.inr (Sum.inl ())) (EvI.ev ?_) (Evn.eq fun f => rfl)
  refine EvI.count (fun j => ((j : Int), l, l, ())) l.length rfl ?_ ?_
  · intro j hj
    refine Evn.eq fun f => ?_
    have hlt : decide ((j : Int) < (l.length : Int)) = true := by simp; exact hj
    have hx : l[j]? = some l[j] := List.getElem?_eq_getElem hj
    have hw5 : IntKind.i64.wrap ((j : Int) + 1) = ((j + 1 : Nat) : Int) := by rw [i64w (by omega) (by omega)]; omega
    have hne : (l[j] != l[j]) = false := by simp
    simp only [hlt, if_true, atL_at hx, Option.bind_some, hne, Bool.false_eq_true, if_false, hw5]
  · refine Evn.eq fun f => ?_
    have hlt : decide ((l.length : Int) < (l.length : Int)) = false := by simp
    simp only [hlt, Bool.false_eq_true, if_false]
theorem rsK_len (k : Int) (s : ByteArray) : (rs k s).1.length ≤ 100000 := by
  unfold rs
  split
  · rename_i h
    have := (checkK_iff.1 h).1
    simp only [sumsE_len]; omega
  · simp
theorem allLK_app {k : Int} {u v : ByteArray} (h1 : allLK k u = true) (h2 : allLK k v = true) : allLK k (u ++ v) = true := by
  unfold allLK at *
  rw [bytesB_app, List.all_append, h1, h2]; rfl
theorem law_sums (k : Int) (u v : ByteArray) (hu : u.size ≤ 140737488351232) (hv : v.size ≤ 140737488351232) : Evn (fun f => F10 f (k, u, v, ())) (true, ()) := by
  unfold F10
  refine Evn.bind (F33_ev k u) ?_
  refine Evn.bind (F34_ev k u (by omega)) ?_
  refine Evn.bind (F33_ev k v) ?_
  have hsz : ¬ ((u.size + v.size : Nat) : Int) > IntKind.i64.max := by
    have : IntKind.i64.max = 9223372036854775807 := by decide
    rw [this]; omega
  simp only [if_neg hsz, Option.bind_some]
  refine Evn.bind (F33_ev k (u ++ v)) ?_
  have hne : ((rs k u).2.1 != (rs k u).2.1) = false := by simp
  simp only [F13, Option.bind_some, Bool.not_true, Bool.false_eq_true, if_false, hne]
  refine Evn.bind (Evn.bind (F23_ev _ (rsK_len k u)) (Evn.now _)) ?_
  simp only [sumE, Bool.not_true, Bool.false_eq_true, if_false]
  by_cases h1 : checkK k u = 0
  case neg =>
    have e1 : rs k u = ([], 1, ()) := by unfold rs; rw [if_neg h1]
    refine Evn.eq fun f => ?_
    simp only [e1, show ((1 : Int) != 0) = true from rfl, if_true, Option.bind_some, sumE]
  have e1 : rs k u = (sumsE k.toNat (bytesB u), 0, ()) := by unfold rs; rw [if_pos h1]
  by_cases h2 : checkK k v = 0
  case neg =>
    have e2 : rs k v = ([], 1, ()) := by unfold rs; rw [if_neg h2]
    refine Evn.eq fun f => ?_
    simp only [e1, e2, show ((1 : Int) != 0) = true from rfl, show ((0 : Int) != 0) = false from rfl, Bool.false_eq_true, if_false, if_true, Option.bind_some, sumE]
  have e2 : rs k v = (sumsE k.toNat (bytesB v), 0, ()) := by unfold rs; rw [if_pos h2]
  have hw : IntKind.i64.wrap ((u.size : Int) + (v.size : Int)) = (u.size : Int) + (v.size : Int) := i64w (by omega) (by omega)
  by_cases h3 : (u.size : Int) + (v.size : Int) > 100000
  · refine Evn.eq fun f => ?_
    simp only [e1, e2, show ((0 : Int) != 0) = false from rfl, Bool.false_eq_true, if_false, if_true, Option.bind_some, sumE, hw, decide_eq_true h3]
  obtain ⟨hk, hu1, hu2⟩ := checkK_iff.1 h1
  obtain ⟨_, hv1, hv2⟩ := checkK_iff.1 h2
  have h4 : checkK k (u ++ v) = 0 := checkK_iff.2 ⟨hk, by rw [ByteArray.size_append]; omega, allLK_app hu2 hv2⟩
  have e3 : rs k (u ++ v) = (sumsE k.toNat (bytesB (u ++ v)), 0, ()) := by unfold rs; rw [if_pos h4]
  obtain ⟨n, rfl⟩ : ∃ n : Nat, k = n := ⟨k.toNat, by omega⟩
  simp only [e1, e2, e3, show ((0 : Int) != 0) = false from rfl, Bool.false_eq_true, if_false, Option.bind_some, sumE, hw, decide_eq_false h3, Int.toNat_natCast]
  refine Evn.bind (a := Sum.inr (Sum.inl ())) (EvI.ev ?_) (Evn.eq fun f => rfl)
  refine EvI.count (fun j => ((j : Int), 0, (n : Int), sumsE n (bytesB (u ++ v)), sumsE n (bytesB u), sumsE n (bytesB v), ())) n rfl ?_ ?_
  · intro j hj
    refine Evn.eq fun f => ?_
    have hlt : decide ((j : Int) < (n : Int)) = true := by simp; exact hj
    have hnl : (((sumsE n (bytesB (u ++ v))).length : Int) != (n : Int)) = false := by rw [sumsE_len]; simp
    have hb1 := cnt_bound (j : Int) (bytesB u) (fun c hc => (allLK_all hu2 c hc).1)
    have hb2 := cnt_bound (j : Int) (bytesB v) (fun c hc => (allLK_all hv2 c hc).1)
    rw [bytesB_len] at hb1 hb2
    have hw4 : IntKind.i64.wrap (cnt (j : Int) (bytesB u) + cnt (j : Int) (bytesB v)) = cnt (j : Int) (bytesB (u ++ v)) := by
      rw [bytesB_app, cnt_app]; exact i64w (by omega) (by omega)
    have hne : (cnt (j : Int) (bytesB (u ++ v)) != cnt (j : Int) (bytesB (u ++ v))) = false := by simp
    have hw5 : IntKind.i64.wrap ((j : Int) + 1) = ((j + 1 : Nat) : Int) := by rw [i64w (by omega) (by omega)]; omega
    simp only [hlt, if_true, show ((0 : Int) != 0) = false from rfl, Bool.false_eq_true, if_false, hnl, atL_at (sumsE_at _ hj), Option.bind_some, hw4, hne, hw5]
  · refine Evn.eq fun f => ?_
    have hlt : decide ((n : Int) < (n : Int)) = false := by simp
    simp only [hlt, Bool.false_eq_true, if_false]
end
end Go.Proofs.YtbjdbpkdkfkpeaaDoorEv
