import Derived.Test.YtehbekgmemebjaaDoorPvPc
namespace Go.Proofs.YtehbekgmemebjaaDoorEv
open Go Go.RowKit Go.Proofs.YtehbekgmemebjaaDoor.PAll.H Go.Proofs.YtehbekgmemebjaaDoorW.PrintWords
set_option linter.unusedVariables false
set_option linter.unusedSimpArgs false
def turn (x : Nd) : Nd := if x.1.size = 0 then (if x.2.2.2.1 = 0 then (x.1, x.2.2.1, x.2.1, x.2.2.2) else x) else (invS x.1, x.2)
theorem leaf_check {l : List Nd} {o : List Int} (h : Rope (mS l) o) {j : Nat} {x : Nd} (hx : l[j]? = some x) (h0 : x.1.size ≠ 0) : checkS x.1 = 0 := by
  have hx' : (mS l)[j]? = some (toS x) := by rw [List.getElem?_map, hx]; rfl
  obtain ⟨v, hs, _⟩ := h.node j _ hx'
  unfold stepL at hs
  rw [if_neg (show ¬ (toS x).f0.size = 0 from h0)] at hs
  split at hs
  · rename_i hc
    exact hc.2.2.2.2
  · cases hs
theorem F34_ev {l : List Nd} {o : List Int} (h : lens (mS l) = some o) : Evn (fun k => F34 k (l, ())) (l.map turn, ()) := by
  have hr := rope_of h
  have hle := hr.le
  rw [mS_len] at hle
  unfold F34
  simp only []
  refine Evn.bind (Evn.eq fun k => F33_ev k hle) ?_
  refine Evn.bind (a := Sum.inl (l.map turn, ())) (EvI.ev ?_) (Evn.now _)
  refine EvI.inv (fun a b => ∃ pre rest, a = ((pre.length : Int), (l.length : Int), pre.map turn ++ rest, ()) ∧ l = pre ++ rest ∧ b = Sum.inl (l.map turn, ())) (fun a => l.length - a.1.toNat) ?_ _ _ ⟨[], l, rfl, rfl, rfl⟩
  rintro a b ⟨pre, rest, rfl, hpr, rfl⟩
  cases rest with
  | nil =>
    refine ⟨.inr (.inl (l.map turn, ())), Evn.eq fun k => ?_, rfl⟩
    have e : l = pre := by simpa using hpr
    subst e
    simp
  | cons x rest =>
    have hlen : (pre.length : Int) < l.length := by rw [hpr]; simp; omega
    have hx : l[pre.length]? = some x := by rw [hpr]; simp
    have hlo : (pre.map turn ++ x :: rest).length = l.length := by rw [hpr]; simp
    have c2 : (0 : Int) ≤ (pre.length : Int) ∧ (pre.length : Int) < ((pre.map turn ++ x :: rest).length : Int) := by omega
    have hat : atL (pre.map turn ++ x :: rest) (pre.length : Int) = some x := atL_nat (by rw [List.getElem?_append_right (by simp)]; simp)
    have hw : IntKind.i64.wrap ((pre.length : Int) + 1) = ((pre ++ [x]).length : Int) := by rw [i64w (by omega) (by omega)]; simp
    have hset : ∀ y : Nd, (pre.map turn ++ x :: rest).set ((pre.length : Int)).toNat y = pre.map turn ++ y :: rest := fun y => by
      rw [Int.toNat_natCast, List.set_append, if_neg (by simp)]
      simp
    have hat2 : ∀ y : Nd, atL (pre.map turn ++ y :: rest) (pre.length : Int) = some y := fun y => atL_nat (by rw [List.getElem?_append_right (by simp)]; simp)
    have hset2 : ∀ y z : Nd, (pre.map turn ++ y :: rest).set ((pre.length : Int)).toNat z = pre.map turn ++ z :: rest := fun y z => by
      rw [Int.toNat_natCast, List.set_append, if_neg (by simp)]
      simp
    have c3 : ∀ y : Nd, (0 : Int) ≤ (pre.length : Int) ∧ (pre.length : Int) < ((pre.map turn ++ y :: rest).length : Int) := fun y => by simp; omega
    refine ⟨.inl (((pre ++ [x]).length : Int), (l.length : Int), (pre ++ [x]).map turn ++ rest, ()), ?_, ?_, pre ++ [x], rest, rfl, by rw [hpr]; simp, rfl⟩
    · have ht : (pre ++ [x]).map turn ++ rest = pre.map turn ++ turn x :: rest := by simp
      rw [ht]
      by_cases h0 : x.1.size = 0
      · by_cases h3 : x.2.2.2.1 = 0
        · refine Evn.eq fun k => ?_
          have e3 : turn x = (x.1, x.2.2.1, x.2.1, x.2.2.2) := by unfold turn; rw [if_pos h0, if_pos h3]
          simp only [decide_eq_true hlen, if_true, if_pos c2, hat, Option.bind_some, toL_eq, decide_eq_true h0, Bool.not_true, Bool.false_eq_true, if_false, h3, beq_self_eq_true, hset, hat2, hset2, hw, if_pos (c3 _), e3]
        · refine Evn.eq fun k => ?_
          have e3 : turn x = x := by unfold turn; rw [if_pos h0, if_neg h3]
          have h3' : (x.2.2.2.1 == (0 : Int)) = false := by simpa using h3
          simp only [decide_eq_true hlen, if_true, if_pos c2, hat, Option.bind_some, toL_eq, decide_eq_true h0, Bool.not_true, Bool.false_eq_true, if_false, h3', hw, e3]
      · obtain ⟨m, hm⟩ := F51_ev (leaf_check hr hx h0)
        refine ⟨m, fun k hk => ?_⟩
        have e3 : turn x = (invS x.1, x.2) := by unfold turn; rw [if_neg h0]
        simp only [decide_eq_true hlen, if_true, if_pos c2, hat, Option.bind_some, toL_eq, decide_eq_false h0, Bool.not_false, hm k hk, hset, hw, e3]
    · simp only [List.length_append, List.length_singleton]
      omega
theorem stepL_turn {d : List Int} {x : Nd} {v : Int} (h : stepL d (toS x) = some v) : stepL d (toS (turn x)) = some v := by
  unfold turn
  by_cases h0 : x.1.size = 0
  · rw [if_pos h0]
    by_cases h3 : x.2.2.2.1 = 0
    · rw [if_pos h3]
      unfold stepL toS at h ⊢
      simp only [h0, h3, if_true] at h ⊢
      split at h
      · rename_i hc
        rw [if_pos ⟨hc.2.2.1, hc.2.2.2.1, hc.1, hc.2.1, by omega⟩, Int.add_comm]
        exact h
      · cases h
    · rw [if_neg h3]
      exact h
  · rw [if_neg h0]
    unfold stepL toS at h ⊢
    simp only [h0, if_false, invS_size] at h ⊢
    split at h
    · rename_i hc
      rw [if_pos ⟨hc.1, hc.2.1, hc.2.2.1, hc.2.2.2.1, invS_check hc.2.2.2.2⟩]
      exact h
    · cases h
theorem rope_turn {l : List Nd} {o : List Int} (h : Rope (mS l) o) : Rope (mS (l.map turn)) o := by
  refine ⟨by have := h.le; rw [mS_len] at this ⊢; rwa [List.length_map], by have := h.len; rw [mS_len] at this ⊢; rwa [List.length_map], h.good, fun j x hx => ?_⟩
  rw [List.getElem?_map, List.getElem?_map] at hx
  cases hy : l[j]? with
  | none => rw [hy] at hx; cases hx
  | some y =>
    rw [hy] at hx
    have hx' : toS (turn y) = x := by simpa using hx
    subst hx'
    obtain ⟨v, h1, h2⟩ := h.node j (toS y) (by rw [List.getElem?_map, hy]; rfl)
    exact ⟨v, stepL_turn h1, h2⟩
theorem rd_turn {l : List Nd} {n : Int} (h0 : 0 ≤ n) (h1 : n < (mS l).length) : ∃ x : Nd, l[n.toNat]? = some x ∧ rd_T55 (mS l) n = toS x ∧ rd_T55 (mS (l.map turn)) n = toS (turn x) := by
  obtain ⟨x, _, e2, e3⟩ := mS_at h0 h1
  refine ⟨x, e3, e2, ?_⟩
  unfold rd_T55
  rw [List.getD_eq_getElem?_getD, List.getElem?_map, List.getElem?_map, e3]
  rfl
theorem tmod_mirror {t L i : Int} (hL : 0 < L) (h0 : 0 ≤ i) (h1 : i < t * L) : Int.tmod (t * L - 1 - i) L = L - 1 - Int.tmod i L := by
  rw [Int.tmod_eq_emod_of_nonneg (by omega), Int.tmod_eq_emod_of_nonneg h0]
  have a := Int.emod_nonneg i (show L ≠ 0 by omega)
  have b := Int.emod_lt_of_pos i hL
  have e : t * L - 1 - i = (L - 1 - i % L) + (t - 1 - i / L) * L := by
    have := Int.mul_ediv_add_emod i L
    have e2 : (t - 1 - i / L) * L = t * L - L - L * (i / L) := by rw [Int.sub_mul, Int.sub_mul, Int.one_mul, Int.mul_comm (i / L) L]
    rw [e2]
    omega
  rw [e, Int.add_mul_emod_self_right]
  exact Int.emod_eq_of_lt (by omega) (by omega)
theorem LetR.mirror {l : List Nd} {o : List Int} (hr : Rope (mS l) o) {n i c : Int} (h : LetR (mS l) o n i c) : 0 ≤ i → i < rd o n → LetR (mS (l.map turn)) o n (rd o n - 1 - i) (otherI c) := by
  have hlen := hr.len
  have hlt : ∀ n : Int, n < (mS l).length → n < (mS (l.map turn)).length := fun n h => by rw [mS_len] at h ⊢; rwa [List.length_map]
  induction h with
  | leaf n i h0 h1 hw i0 i1 =>
    intro _ hi
    obtain ⟨x, ex, e1, e2⟩ := rd_turn h0 h1
    rw [e1] at hw i1 ⊢
    have hs : x.1.size ≠ 0 := fun h => hw ((toList_size _).2 h)
    have et : turn x = (invS x.1, x.2) := by unfold turn; rw [if_neg hs]
    obtain ⟨v, hv, v1, v2, hn⟩ := hr.is (j := n.toNat) (x := toS x) (by rw [List.getElem?_map, ex]; rfl)
    have hrd : rd o n = x.1.size := by
      have := rd_at' hv
      rw [Int.toNat_of_nonneg h0] at this
      rw [this]
      cases hn with
      | leaf _ e => exact e
      | times h _ _ _ _ _ => exact absurd h hs
      | pair h _ _ _ _ _ _ => exact absurd h hs
    have i1' : i < x.1.size := i1
    have hb : otherI (bt (toS x).f0 i) = bt (toS (turn x)).f0 (rd o n - 1 - i) := by
      rw [et, hrd]
      show otherI (bt x.1 i) = bt (invS x.1) _
      rw [invS_bt (by omega) (by omega)]
      congr 2
      omega
    rw [hb, ← e2]
    have hsz : (toS (turn x)).f0.size = x.1.size := by rw [et]; exact invS_size _
    refine .leaf _ _ h0 (hlt n h1) ?_ (by omega) ?_
    · rw [e2]
      intro hc
      rw [toList_size, hsz] at hc
      exact hs hc
    · rw [e2, hsz]
      omega
  | times n i c h0 h1 hw ht f0 f1 hz h ih =>
    intro i0 hi
    obtain ⟨x, ex, e1, e2⟩ := rd_turn h0 h1
    rw [e1] at hw ht f0 f1 hz ih
    have hs : x.1.size = 0 := (toList_size _).1 hw
    have ht' : ¬ x.2.2.2.1 = 0 := by have : x.2.2.2.1 > 0 := ht; omega
    have et : turn x = x := by unfold turn; rw [if_pos hs, if_neg ht']
    rw [et] at e2
    obtain ⟨v, hv, v1, v2, hn⟩ := hr.is (j := n.toNat) (x := toS x) (by rw [List.getElem?_map, ex]; rfl)
    have hp := hr.good.rd f0 f1
    have hrd : rd o n = (toS x).f3 * rd o (toS x).f1 := by
      have := rd_at' hv
      rw [Int.toNat_of_nonneg h0] at this
      rw [this]
      cases hn with
      | leaf h _ => exact absurd hs h
      | times _ _ _ _ _ e => exact e
      | pair _ h _ _ _ _ _ => exact absurd h ht'
    rw [hrd] at hi ⊢
    have := ih (Int.tmod_nonneg _ i0) (Int.tmod_lt_of_pos _ (by omega))
    rw [← tmod_mirror (by omega) i0 hi] at this
    refine .times _ _ _ h0 (hlt n h1) (by rw [e2]; exact hw) (by rw [e2]; exact ht) (by rw [e2]; exact f0) (by rw [e2]; exact f1) (by rw [e2]; exact hz) ?_
    rw [e2]
    exact this
  | left n i c h0 h1 hw ht f0 f1 hi h ih =>
    intro i0 hin
    obtain ⟨x, ex, e1, e2⟩ := rd_turn h0 h1
    rw [e1] at hw ht f0 f1 hi ih
    have hs : x.1.size = 0 := (toList_size _).1 hw
    obtain ⟨v, hv, v1, v2, hn⟩ := hr.is (j := n.toNat) (x := toS x) (by rw [List.getElem?_map, ex]; rfl)
    have hrd0 := rd_at' hv
    rw [Int.toNat_of_nonneg h0] at hrd0
    cases hn with
    | leaf h _ => exact absurd hs h
    | times _ q _ _ _ _ => exact absurd (show (toS x).f3 > 0 by omega) ht
    | pair _ q a b a' b' e =>
      have q' : x.2.2.2.1 = 0 := q
      have et : turn x = (x.1, x.2.2.1, x.2.1, x.2.2.2) := by unfold turn; rw [if_pos hs, if_pos q']
      have g1 : (toS (turn x)).f1 = (toS x).f2 := by rw [et]; rfl
      have g2 : (toS (turn x)).f2 = (toS x).f1 := by rw [et]; rfl
      have g0 : (toS (turn x)).f0 = (toS x).f0 := by rw [et]; rfl
      have g3 : (toS (turn x)).f3 = (toS x).f3 := by rw [et]; rfl
      have hlo : (n.toNat : Int) < o.length := by have := (List.getElem?_eq_some_iff.1 hv).1; omega
      have := ih i0 hi
      rw [hrd0] at hin ⊢
      have hb2 := hr.good.rd a' (by omega)
      have hb1 := hr.good.rd f0 f1
      refine .right _ _ _ h0 (hlt n h1) (by rw [e2, g0]; exact hw) (by rw [e2, g3]; exact ht) (by rw [e2, g1]; exact a') (by rw [e2, g1]; omega) (by rw [e2, g1]; omega) ?_
      rw [e2, g1, g2, w64 (by omega) (by omega), show v - 1 - i - rd o (toS x).f2 = rd o (toS x).f1 - 1 - i by omega]
      exact this
  | right n i c h0 h1 hw ht f0 f1 hi h ih =>
    intro i0 hin
    obtain ⟨x, ex, e1, e2⟩ := rd_turn h0 h1
    rw [e1] at hw ht f0 f1 hi ih
    have hs : x.1.size = 0 := (toList_size _).1 hw
    obtain ⟨v, hv, v1, v2, hn⟩ := hr.is (j := n.toNat) (x := toS x) (by rw [List.getElem?_map, ex]; rfl)
    have hrd0 := rd_at' hv
    rw [Int.toNat_of_nonneg h0] at hrd0
    cases hn with
    | leaf h _ => exact absurd hs h
    | times _ q _ _ _ _ => exact absurd (show (toS x).f3 > 0 by omega) ht
    | pair _ q a b a' b' e =>
      have q' : x.2.2.2.1 = 0 := q
      have et : turn x = (x.1, x.2.2.1, x.2.1, x.2.2.2) := by unfold turn; rw [if_pos hs, if_pos q']
      have g1 : (toS (turn x)).f1 = (toS x).f2 := by rw [et]; rfl
      have g2 : (toS (turn x)).f2 = (toS x).f1 := by rw [et]; rfl
      have g0 : (toS (turn x)).f0 = (toS x).f0 := by rw [et]; rfl
      have g3 : (toS (turn x)).f3 = (toS x).f3 := by rw [et]; rfl
      have hlo : (n.toNat : Int) < o.length := by have := (List.getElem?_eq_some_iff.1 hv).1; omega
      rw [hrd0] at hin ⊢
      have hb2 := hr.good.rd a' (by omega)
      have hb1 := hr.good.rd f0 f1
      rw [w64 (by omega) (by omega)] at ih
      have := ih (by omega) (by omega)
      refine .left _ _ _ h0 (hlt n h1) (by rw [e2, g0]; exact hw) (by rw [e2, g3]; exact ht) (by rw [e2, g1]; exact a') (by rw [e2, g1]; omega) (by rw [e2, g1]; omega) ?_
      rw [e2, g1, show v - 1 - i = rd o (toS x).f2 - 1 - (i - rd o (toS x).f1) by omega]
      exact this
end Go.Proofs.YtehbekgmemebjaaDoorEv
namespace Go.Proofs.YtehbekgmemebjaaDoorEv
open Go Go.RowKit Go.Proofs.YtehbekgmemebjaaDoor.PAll.H Go.Proofs.YtehbekgmemebjaaDoorW.PrintWords
set_option linter.unusedVariables false
set_option linter.unusedSimpArgs false
theorem F31_some (k : Nat) {l : List Nd} {o : List Int} (h : lens (mS l) = some o) : F31 k (l, ()) = some (o, 0, ()) := by
  unfold F31
  have : lens (l.map toS) = some o := h
  simp only [this]
theorem F31_none (k : Nat) {l : List Nd} (h : lens (mS l) = none) : F31 k (l, ()) = some ([], 20, ()) := by
  unfold F31
  have : lens (l.map toS) = none := h
  simp only [this]
theorem F11_some {l : List Nd} {o : List Int} (h : lens (mS l) = some o) : Evn (fun k => F11 k (l, ())) (l.map turn, 0, ()) := by
  unfold F11
  simp only []
  refine Evn.bind (Evn.eq fun k => F31_some k h) ?_
  simp only [bne_self_eq_false, Bool.false_eq_true, if_false]
  exact Evn.bind (F34_ev h) (Evn.now _)
theorem F11_none {l : List Nd} (h : lens (mS l) = none) : Evn (fun k => F11 k (l, ())) ([], 20, ()) := by
  unfold F11
  simp only []
  refine Evn.bind (Evn.eq fun k => F31_none k h) ?_
  exact Evn.now _
def powN (a : List Nd) (m : Int) : Nd := (⟨#[]⟩, (a.length : Int) - 1, 0, m, ())
def powL (a : List Nd) (n : Int) : List Nd :=
  if (if n < 0 then -n else n) = 1 then (if n < 0 then a.map turn else a) else (if n < 0 then a.map turn else a) ++ [powN a (if n < 0 then -n else n)]
def tooBig (a : List Nd) (o : List Int) (n : Int) : Prop := a.length + 1 > 4000 ∨ (wholeL o > 0 ∧ (n > 1152921504606846976 / wholeL o ∨ n < -(1152921504606846976 / wholeL o)))
instance (a : List Nd) (o : List Int) (n : Int) : Decidable (tooBig a o n) := by unfold tooBig; infer_instance
theorem div_range {W : Int} (h : 0 < W) : 0 ≤ 1152921504606846976 / W ∧ 1152921504606846976 / W ≤ 1152921504606846976 := ⟨Int.ediv_nonneg (by omega) (by omega), Int.ediv_le_self _ (by omega)⟩
theorem F10_none {l : List Nd} {n : Int} (h : lens (mS l) = none) : Evn (fun k => F10 k (l, n, ())) ([], 20, ()) := by
  unfold F10
  simp only []
  refine Evn.bind (Evn.eq fun k => F31_none k h) ?_
  exact Evn.now _
theorem F10_big {l : List Nd} {o : List Int} {n : Int} (h : lens (mS l) = some o) (hb : tooBig l o n) : Evn (fun k => F10 k (l, n, ())) ([], 2, ()) := by
  have hle := (rope_of h).le
  have hlen := (rope_of h).len
  have hw := wholeL_range h
  rw [mS_len] at hle hlen
  unfold F10
  simp only []
  refine Evn.bind (Evn.eq fun k => F31_some k h) ?_
  simp only [bne_self_eq_false, Bool.false_eq_true, if_false]
  refine Evn.bind (Evn.eq fun k => F32_ev k (by omega)) ?_
  refine Evn.bind (a := Sum.inr (Sum.inl ((2 : Int), ()))) (Evn.eq fun k => ?_) (Evn.now _)
  simp only [i64w (show -9223372036854775808 ≤ (l.length : Int) + 1 by omega) (show (l.length : Int) + 1 ≤ 9223372036854775807 by omega)]
  by_cases c1 : (l.length : Int) + 1 > 4000
  · rw [if_pos (decide_eq_true c1)]
  · rw [if_neg (fun h => c1 (of_decide_eq_true h))]
    rcases hb with hb | ⟨hw0, hb⟩
    · omega
    · have hd := div_range hw0
      have t1 : Int.tdiv 1152921504606846976 (wholeL o) = 1152921504606846976 / wholeL o := Int.tdiv_eq_ediv_of_nonneg (by omega)
      rw [if_pos (decide_eq_true hw0)]
      simp only [if_neg (show ¬ wholeL o = 0 by omega), Option.bind_some, t1, i64w (show -9223372036854775808 ≤ 1152921504606846976 / wholeL o by omega) (show 1152921504606846976 / wholeL o ≤ 9223372036854775807 by omega)]
      by_cases c2 : n > 1152921504606846976 / wholeL o
      · rw [if_pos (decide_eq_true c2)]
      · rw [if_neg (fun h => c2 (of_decide_eq_true h)), i64w (by omega) (by omega), if_pos (decide_eq_true (by omega))]
theorem F10_ok {l : List Nd} {o : List Int} {n : Int} (h : lens (mS l) = some o) (hb : ¬ tooBig l o n) : Evn (fun k => F10 k (l, n, ())) (if n = 0 ∨ wholeL o = 0 then [] else powL l n, 0, ()) := by
  have hle := (rope_of h).le
  have hlen := (rope_of h).len
  have hw := wholeL_range h
  rw [mS_len] at hle hlen
  have c1 : ¬ (l.length : Int) + 1 > 4000 := fun hc => hb (.inl (by omega))
  unfold F10
  simp only []
  refine Evn.bind (Evn.eq fun k => F31_some k h) ?_
  simp only [bne_self_eq_false, Bool.false_eq_true, if_false]
  refine Evn.bind (Evn.eq fun k => F32_ev k (by omega)) ?_
  refine Evn.bind (a := Sum.inl (wholeL o, l, n, ())) (Evn.eq fun k => ?_) ?_
  · simp only [i64w (show -9223372036854775808 ≤ (l.length : Int) + 1 by omega) (show (l.length : Int) + 1 ≤ 9223372036854775807 by omega)]
    rw [if_neg (fun h => c1 (of_decide_eq_true h))]
    by_cases hw0 : wholeL o > 0
    · have hd := div_range hw0
      have t1 : Int.tdiv 1152921504606846976 (wholeL o) = 1152921504606846976 / wholeL o := Int.tdiv_eq_ediv_of_nonneg (by omega)
      rw [if_pos (decide_eq_true hw0)]
      simp only [if_neg (show ¬ wholeL o = 0 by omega), Option.bind_some, t1, i64w (show -9223372036854775808 ≤ 1152921504606846976 / wholeL o by omega) (show 1152921504606846976 / wholeL o ≤ 9223372036854775807 by omega)]
      rw [if_neg (fun h => hb (.inr ⟨hw0, .inl (of_decide_eq_true h)⟩)), i64w (by omega) (by omega), if_neg (fun h => hb (.inr ⟨hw0, .inr (by have := of_decide_eq_true h; omega)⟩))]
    · rw [if_neg (fun h => hw0 (of_decide_eq_true h))]
  · simp only [sumE]
    by_cases hz : n = 0 ∨ wholeL o = 0
    · rw [if_pos hz]
      refine Evn.bind (a := Sum.inl (true, l, n, ())) (Evn.eq fun k => ?_) (Evn.now _)
      by_cases h0 : n = 0
      · rw [if_pos (by simp [h0])]
      · rw [if_neg (by simpa using h0)]
        have : wholeL o = 0 := hz.resolve_left h0
        simp [this]
    · rw [if_neg hz]
      have h0 : ¬ n = 0 := fun h => hz (.inl h)
      have hW : ¬ wholeL o = 0 := fun h => hz (.inr h)
      have hd := div_range (show 0 < wholeL o by omega)
      have n1 : n ≤ 1152921504606846976 := by
        have : ¬ n > 1152921504606846976 / wholeL o := fun h => hb (.inr ⟨by omega, .inl h⟩)
        omega
      have n2 : -1152921504606846976 ≤ n := by
        have : ¬ n < -(1152921504606846976 / wholeL o) := fun h => hb (.inr ⟨by omega, .inr h⟩)
        omega
      refine Evn.bind (a := Sum.inl (false, l, n, ())) (Evn.eq fun k => ?_) ?_
      · rw [if_neg (by simpa using h0)]
        simp [hW]
      · simp only [sumE, Bool.false_eq_true, if_false]
        refine Evn.bind (Evn.eq fun k => F33_ev k hle) ?_
        refine Evn.bind (a := Sum.inl ((if n < 0 then l.map turn else l), l, (if n < 0 then -n else n), ())) ?_ ?_
        · by_cases hn : n < 0
          · simp only [decide_eq_true hn, if_true, if_pos hn]
            refine Evn.bind (F34_ev h) (Evn.eq fun k => ?_)
            rw [i64w (by omega) (by omega), Int.zero_sub]
          · simp only [decide_eq_false hn, Bool.false_eq_true, if_false, if_neg hn]
            exact Evn.now _
        · refine Evn.eq fun k => ?_
          simp only [sumE]
          unfold powL
          by_cases h1 : (if n < 0 then -n else n) = 1
          · rw [if_pos (by simp [h1]), if_pos h1]
          · have hbl : (if n < 0 then l.map turn else l).length ≤ 4000 := by split <;> (try rw [List.length_map]) <;> omega
            rw [if_neg (by simpa using h1), if_neg h1, bigF (by simp only [List.length_set, List.length_replicate]; omega) (by omega), i64w (by omega) (by omega)]
            rfl
theorem rd_last (o : List Int) (v : Int) : rd (o ++ [v]) (o.length : Int) = v := by
  have := rd_app_right (a := o) (b := [v]) (i := 0) (by omega)
  rw [Int.zero_add] at this
  rw [this]
  rfl
theorem pow_rope {b : List Nd} {o : List Int} {m : Int} {len : Nat} (hr : Rope (mS b) o) (hb : b.length = len) (hn : 0 < len) (hm : 1 ≤ m) (hd : m ≤ 1152921504606846976 / wholeL o) (hl : len + 1 ≤ 4000) {x : Nd} (hx : x = (⟨#[]⟩, (len : Int) - 1, 0, m, ())) : Rope (mS (b ++ [x])) (o ++ [m * wholeL o]) := by
  have hlen := hr.len
  rw [mS_len] at hlen
  have hW : wholeL o = rd o ((len : Int) - 1) := by
    unfold wholeL lastL
    rw [if_neg (by omega), hlen, hb]
  have hg := hr.good.rd (i := (len : Int) - 1) (by omega) (by omega)
  rw [← hW] at hg
  have hp1 : 1 * 1 ≤ m * wholeL o := Int.mul_le_mul hm hg.1 (by omega) (by omega)
  have hp2 : m * wholeL o ≤ 1152921504606846976 := (Int.le_ediv_iff_mul_le (by omega)).1 hd
  refine ⟨by rw [mS_len, List.length_append, List.length_singleton]; omega, by rw [mS_len, List.length_append, List.length_append, List.length_singleton, List.length_singleton]; omega, ?_, ?_⟩
  · intro v hv
    rcases List.mem_append.1 hv with hv | hv
    · exact hr.good v hv
    · rw [List.mem_singleton.1 hv]
      omega
  · intro j y hy
    rw [mS, List.map_append, List.getElem?_append, List.length_map] at hy
    split at hy
    · rename_i hj
      obtain ⟨v, p, q⟩ := hr.node j y hy
      refine ⟨v, ?_, ?_⟩
      · rw [List.take_append_of_le_length (by omega)]; exact p
      · rw [List.getElem?_append_left (by omega)]; exact q
    · rename_i hj
      have hj' : j = b.length := by
        have := (List.getElem?_eq_some_iff.1 hy).1
        simp at this
        omega
      subst hj'
      have hy' : y = toS x := by simpa using hy.symm
      subst hy' hx
      refine ⟨m * wholeL o, ?_, ?_⟩
      · rw [List.take_append_of_le_length (by omega), List.take_of_length_le (by omega)]
        unfold stepL toS
        have hz : (⟨#[]⟩ : ByteArray).size = 0 := rfl
        simp only [hz, if_true]
        rw [if_neg (by omega), ← hW, if_pos ⟨by omega, by omega, by omega, trivial, hd⟩]
      · rw [List.getElem?_append_right (by omega)]
        simp [hlen]
theorem pow_let {b : List Nd} {o : List Int} {m : Int} {len : Nat} (hr : Rope (mS b) o) (hb : b.length = len) (hn : 0 < len) (hm : 1 ≤ m) {x : Nd} (hx : x = (⟨#[]⟩, (len : Int) - 1, 0, m, ())) {i c : Int} (h : LetR (mS b) o ((len : Int) - 1) (Int.tmod i (wholeL o)) c) : LetR (mS (b ++ [x])) (o ++ [m * wholeL o]) (len : Int) i c := by
  have hlen := hr.len
  have hlb := mS_len b
  rw [mS_len] at hlen
  have hW : wholeL o = rd o ((len : Int) - 1) := by
    unfold wholeL lastL
    rw [if_neg (by omega), hlen, hb]
  have hg := hr.good.rd (i := (len : Int) - 1) (by omega) (by omega)
  have hx2 : rd_T55 (mS (b ++ [x])) (len : Int) = toS x := rdT_at (by
    rw [mS, List.map_append, List.getElem?_append_right (by simp; omega)]
    simp [hb])
  have hro : rd (o ++ [m * wholeL o]) ((len : Int) - 1) = wholeL o := by rw [rd_app_left (by omega) (by omega), hW]
  have ha := h.app (r := [toS x]) (p := [m * wholeL o]) hr.len
  have hmm : mS b ++ [toS x] = mS (b ++ [x]) := by simp [mS]
  rw [hmm] at ha
  subst hx
  refine .times _ _ _ (by omega) (by rw [mS_len, List.length_append, List.length_singleton]; omega) (by rw [hx2]; exact (toList_size _).2 rfl) (by rw [hx2]; show m > 0; omega) (by rw [hx2]; show (0 : Int) ≤ (len : Int) - 1; omega) (by rw [hx2]; show (len : Int) - 1 < _; rw [List.length_append, List.length_singleton]; omega) (by rw [hx2]; show rd _ ((len : Int) - 1) ≠ 0; rw [hro]; omega) ?_
  rw [hx2]
  show LetR _ _ ((len : Int) - 1) (Int.tmod i (rd _ ((len : Int) - 1))) c
  rw [hro]
  exact ha
end Go.Proofs.YtehbekgmemebjaaDoorEv
