import Derived.Test.YtehbekgmemebjaaDoorPAllx0
import Derived.Test.YtehbekgmemebjaaDoorPAllx5
import Derived.Test.YtehbekgmemebjaaDoorPAllx7
import Derived.Test.YtehbekgmemebjaaDoorExtR
namespace Go.Proofs.YtehbekgmemebjaaDoor.PAll
open Go Go.RowKit Go.Proofs.YtehbekgmemebjaaDoorEv Go.Proofs.YtehbekgmemebjaaDoorW.PrintWords Go.Proofs.YtehbekgmemebjaaDoorW.PrintLast Go.Proofs.YtehbekgmemebjaaDoorW.PrintMore H
set_option linter.unusedVariables false
set_option linter.unusedSimpArgs false
namespace H
theorem w64 {x : Int} (h : -9223372036854775808 ≤ x) (h' : x ≤ 9223372036854775807) : wrap64 x = x := by unfold wrap64; omega
inductive LetR (l : List S55) (o : List Int) : Int → Int → Int → Prop
  | leaf (n i : Int) (h0 : 0 ≤ n) (h1 : n < l.length) (hw : (rd_T55 l n).f0.toList ≠ []) (i0 : 0 ≤ i) (i1 : i < (rd_T55 l n).f0.size) : LetR l o n i (bt (rd_T55 l n).f0 i)
  | times (n i c : Int) (h0 : 0 ≤ n) (h1 : n < l.length) (hw : (rd_T55 l n).f0.toList = []) (ht : (rd_T55 l n).f3 > 0) (f0 : 0 ≤ (rd_T55 l n).f1) (f1 : (rd_T55 l n).f1 < o.length) (hz : rd o (rd_T55 l n).f1 ≠ 0)
      (h : LetR l o (rd_T55 l n).f1 (Int.tmod i (rd o (rd_T55 l n).f1)) c) : LetR l o n i c
  | left (n i c : Int) (h0 : 0 ≤ n) (h1 : n < l.length) (hw : (rd_T55 l n).f0.toList = []) (ht : ¬ (rd_T55 l n).f3 > 0) (f0 : 0 ≤ (rd_T55 l n).f1) (f1 : (rd_T55 l n).f1 < o.length) (hi : i < rd o (rd_T55 l n).f1)
      (h : LetR l o (rd_T55 l n).f1 i c) : LetR l o n i c
  | right (n i c : Int) (h0 : 0 ≤ n) (h1 : n < l.length) (hw : (rd_T55 l n).f0.toList = []) (ht : ¬ (rd_T55 l n).f3 > 0) (f0 : 0 ≤ (rd_T55 l n).f1) (f1 : (rd_T55 l n).f1 < o.length) (hi : ¬ i < rd o (rd_T55 l n).f1)
      (h : LetR l o (rd_T55 l n).f2 (wrap64 (i - rd o (rd_T55 l n).f1)) c) : LetR l o n i c
theorem LetR.ev {l : List S55} {o : List Int} {n i c : Int} (h : LetR l o n i c) : Go.Proofs.YtehbekgmemebjaaDoorW.PrintWords.Ev (fun k => cayleyref02_letter.f k l o n i) c := by
  induction h with
  | leaf n i h0 h1 hw i0 i1 =>
    refine Ev.step (f := fun _ => some (bt (rd_T55 l n).f0 i)) (fun k => ?_) (Ev.now _)
    simp only [cayleyref02_letter.f]
    rw [if_pos h0, if_pos h1, if_neg hw, if_pos i0, if_pos i1]
  | times n i c h0 h1 hw ht f0 f1 hz h ih =>
    refine Ev.step (f := fun k => (cayleyref02_letter.f k l o (rd_T55 l n).f1 (Int.tmod i (rd o (rd_T55 l n).f1))).bind fun t => some t) (fun k => ?_) (Ev.bind ih (Ev.now _))
    simp only [cayleyref02_letter.f]
    rw [if_pos h0, if_pos h1, if_pos hw, if_pos ht, if_pos f0, if_pos f1, if_neg hz]
  | left n i c h0 h1 hw ht f0 f1 hi h ih =>
    refine Ev.step (f := fun k => (cayleyref02_letter.f k l o (rd_T55 l n).f1 i).bind fun t => some t) (fun k => ?_) (Ev.bind ih (Ev.now _))
    simp only [cayleyref02_letter.f]
    rw [if_pos h0, if_pos h1, if_pos hw, if_neg ht, if_pos f0, if_pos f1, if_pos hi]
  | right n i c h0 h1 hw ht f0 f1 hi h ih =>
    refine Ev.step (f := fun k => (cayleyref02_letter.f k l o (rd_T55 l n).f2 (wrap64 (i - rd o (rd_T55 l n).f1))).bind fun t => some t) (fun k => ?_) (Ev.bind ih (Ev.now _))
    simp only [cayleyref02_letter.f]
    rw [if_pos h0, if_pos h1, if_pos hw, if_neg ht, if_pos f0, if_pos f1, if_neg hi]
theorem lensF_spec : ∀ (rest : List S55) (done out : List Int), lensF done rest = some out → out.length = done.length + rest.length ∧ out.take done.length = done ∧ ∀ (j : Nat) (x : S55), rest[j]? = some x → ∃ v, stepL (out.take (done.length + j)) x = some v ∧ out[done.length + j]? = some v := by
  intro rest
  induction rest with
  | nil =>
    intro done out h
    simp only [lensF, Option.some.injEq] at h
    subst h
    exact ⟨by simp, by simp, fun j x hx => by simp at hx⟩
  | cons y r ih =>
    intro done out h
    simp only [lensF, Option.bind_eq_some_iff] at h
    obtain ⟨v, hv, h⟩ := h
    obtain ⟨a, b, c⟩ := ih (done ++ [v]) out h
    rw [List.length_append, List.length_singleton] at a b c
    have b2 : out.take done.length = done := by
      have := congrArg (List.take done.length) b
      rw [List.take_take, Nat.min_eq_left (by omega), List.take_left] at this
      exact this
    refine ⟨by simp only [List.length_cons]; omega, b2, fun j x hx => ?_⟩
    cases j with
    | zero =>
      simp only [List.getElem?_cons_zero, Option.some.injEq] at hx
      subst hx
      refine ⟨v, by rw [Nat.add_zero, b2]; exact hv, ?_⟩
      have := congrArg (fun l => l[done.length]?) b
      simp only [List.getElem?_take] at this
      rw [if_pos (by omega)] at this
      rw [Nat.add_zero, this]
      simp
    | succ j =>
      simp only [List.getElem?_cons_succ] at hx
      obtain ⟨v', p, q⟩ := c j x hx
      exact ⟨v', by rw [show done.length + (j + 1) = done.length + 1 + j by omega]; exact p, by rw [show done.length + (j + 1) = done.length + 1 + j by omega]; exact q⟩
theorem lensF_good : ∀ (rest : List S55) (done out : List Int), goodL done → lensF done rest = some out → goodL out := by
  intro rest
  induction rest with
  | nil =>
    intro done out hg h
    simp only [lensF, Option.some.injEq] at h
    subst h; exact hg
  | cons y r ih =>
    intro done out hg h
    simp only [lensF, Option.bind_eq_some_iff] at h
    obtain ⟨v, hv, h⟩ := h
    refine ih _ _ ?_ h
    intro z hz
    rcases List.mem_append.1 hz with hz | hz
    · exact hg z hz
    · rw [List.mem_singleton.1 hz]; exact stepL_good hg hv
structure Rope (l : List S55) (out : List Int) : Prop where
  le : l.length ≤ 4000
  len : out.length = l.length
  good : goodL out
  node : ∀ (j : Nat) (x : S55), l[j]? = some x → ∃ v, stepL (out.take j) x = some v ∧ out[j]? = some v
theorem rope_of {l : List S55} {out : List Int} (h : lens l = some out) : Rope l out := by
  unfold lens at h
  split at h
  · rename_i hl
    obtain ⟨a, _, c⟩ := lensF_spec l [] out h
    exact ⟨hl, by simpa using a, lensF_good l [] out (fun v hv => by cases hv) h, fun j x hx => by simpa using c j x hx⟩
  · cases h
theorem lensF_of : ∀ (rest : List S55) (done out : List Int), out.length = done.length + rest.length → out.take done.length = done → (∀ (j : Nat) (x : S55), rest[j]? = some x → ∃ v, stepL (out.take (done.length + j)) x = some v ∧ out[done.length + j]? = some v) → lensF done rest = some out := by
  intro rest
  induction rest with
  | nil =>
    intro done out a b _
    simp only [List.length_nil, Nat.add_zero] at a
    rw [← a, List.take_length] at b
    simp only [lensF, b]
  | cons y r ih =>
    intro done out a b c
    obtain ⟨v, p, q⟩ := c 0 y rfl
    rw [Nat.add_zero, b] at p
    rw [Nat.add_zero] at q
    simp only [lensF, p, Option.bind_some]
    refine ih (done ++ [v]) out (by simp only [List.length_cons] at a; simp; omega) ?_ fun j x hx => ?_
    · rw [List.length_append, List.length_singleton, List.take_add_one, b, q]; rfl
    · obtain ⟨v', p', q'⟩ := c (j + 1) x (by simpa using hx)
      rw [List.length_append, List.length_singleton]
      exact ⟨v', by rw [show done.length + 1 + j = done.length + (j + 1) by omega]; exact p', by rw [show done.length + 1 + j = done.length + (j + 1) by omega]; exact q'⟩
theorem rope_lens {l : List S55} {out : List Int} (h : Rope l out) : lens l = some out := by
  unfold lens
  rw [if_pos h.le]
  exact lensF_of l [] out (by simpa using h.len) rfl fun j x hx => by simpa using h.node j x hx
theorem rdT_at {l : List S55} {j : Nat} {x : S55} (h : l[j]? = some x) : rd_T55 l (j : Int) = x := by
  unfold rd_T55
  rw [Int.toNat_natCast, List.getD_eq_getElem?_getD, h]; rfl
theorem rd_at' {l : List Int} {j : Nat} {v : Int} (h : l[j]? = some v) : rd l (j : Int) = v := by
  unfold rd
  rw [Int.toNat_natCast, List.getD_eq_getElem?_getD, h]; rfl
theorem rd_take {l : List Int} {j : Nat} {i : Int} (h0 : 0 ≤ i) (h1 : i < (l.take j).length) : rd (l.take j) i = rd l i := by
  unfold rd
  have : i.toNat < (l.take j).length := by omega
  rw [List.getD_eq_getElem?_getD, List.getD_eq_getElem?_getD, List.getElem?_take, if_pos (by rw [List.length_take] at this; omega)]
theorem toList_size (s : ByteArray) : s.toList = [] ↔ s.size = 0 := by
  rw [ByteArray.toList_eq]
  obtain ⟨⟨l⟩⟩ := s
  show l = [] ↔ l.length = 0
  exact List.length_eq_zero_iff.symm
inductive NodeIs (out : List Int) (j : Nat) (x : S55) (v : Int) : Prop
  | leaf (h : x.f0.size ≠ 0) (hv : v = x.f0.size)
  | times (h : x.f0.size = 0) (ht : 1 ≤ x.f3) (h0 : 0 ≤ x.f1) (h1 : x.f1 < j) (h2 : x.f2 = 0) (hv : v = x.f3 * rd out x.f1)
  | pair (h : x.f0.size = 0) (ht : x.f3 = 0) (h0 : 0 ≤ x.f1) (h1 : x.f1 < j) (g0 : 0 ≤ x.f2) (g1 : x.f2 < j) (hv : v = rd out x.f1 + rd out x.f2)
theorem Rope.is {l : List S55} {out : List Int} (h : Rope l out) {j : Nat} {x : S55} (hx : l[j]? = some x) : ∃ v, out[j]? = some v ∧ 1 ≤ v ∧ v ≤ 1152921504606846976 ∧ NodeIs out j x v := by
  obtain ⟨v, hs, hv⟩ := h.node j x hx
  have hg := h.good v (List.mem_of_getElem? hv)
  refine ⟨v, hv, hg.1, hg.2, ?_⟩
  have hlen : (out.take j).length = j := by
    have := (List.getElem?_eq_some_iff.1 hv).1
    rw [List.length_take]; omega
  unfold stepL at hs
  split at hs
  · rename_i h0
    split at hs
    · rename_i h3
      split at hs
      · rename_i hc
        obtain ⟨a, b, c, d, e⟩ := hc
        cases hs
        refine .pair h0 h3 a (by omega) c (by omega) ?_
        rw [rd_take a b, rd_take c d]
      · cases hs
    · split at hs
      · rename_i hc
        obtain ⟨a, b, c, d, e⟩ := hc
        cases hs
        refine .times h0 a b (by omega) d ?_
        rw [rd_take b c]
      · cases hs
  · rename_i h0
    split at hs
    · cases hs; exact .leaf h0 rfl
    · cases hs
theorem LetR.exists {l : List S55} {out : List Int} (h : Rope l out) : ∀ (N j : Nat), j ≤ N → j < l.length → ∀ i : Int, 0 ≤ i → i < rd out (j : Int) → ∃ c, LetR l out (j : Int) i c := by
  intro N
  induction N with
  | zero =>
    intro j hj hl i i0 i1
    have hx : l[j]? = some l[j] := List.getElem?_eq_getElem hl
    obtain ⟨v, hv, v1, v2, hn⟩ := h.is hx
    have hr := rdT_at hx
    rw [rd_at' hv] at i1
    cases hn with
    | leaf h0 e => exact ⟨_, .leaf _ _ (by omega) (by omega) (by rw [hr]; intro hc; exact h0 ((toList_size _).1 hc)) i0 (by rw [hr]; omega)⟩
    | times h0 ht a b _ e => omega
    | pair h0 ht a b _ _ e => omega
  | succ N ih =>
    intro j hj hl i i0 i1
    have hx : l[j]? = some l[j] := List.getElem?_eq_getElem hl
    obtain ⟨v, hv, v1, v2, hn⟩ := h.is hx
    have hr := rdT_at hx
    rw [rd_at' hv] at i1
    have hlen := h.len
    cases hn with
    | leaf h0 e => exact ⟨_, .leaf _ _ (by omega) (by omega) (by rw [hr]; intro hc; exact h0 ((toList_size _).1 hc)) i0 (by rw [hr]; omega)⟩
    | times h0 ht a b _ e =>
      have hp := h.good.rd a (by omega)
      obtain ⟨c, hc⟩ := ih (l[j].f1.toNat) (by omega) (by omega) (Int.tmod i (rd out l[j].f1)) (Int.tmod_nonneg _ i0) (by
        rw [Int.toNat_of_nonneg a]
        exact Int.tmod_lt_of_pos _ (by omega))
      rw [Int.toNat_of_nonneg a] at hc
      refine ⟨c, .times _ _ _ (by omega) (by omega) (by rw [hr]; exact (toList_size _).2 h0) (by rw [hr]; omega) (by rw [hr]; exact a) (by rw [hr]; omega) (by rw [hr]; omega) ?_⟩
      rw [hr]; exact hc
    | pair h0 ht a b a' b' e =>
      have hp := h.good.rd a (by omega)
      by_cases hlt : i < rd out l[j].f1
      · obtain ⟨c, hc⟩ := ih (l[j].f1.toNat) (by omega) (by omega) i i0 (by rw [Int.toNat_of_nonneg a]; exact hlt)
        rw [Int.toNat_of_nonneg a] at hc
        refine ⟨c, .left _ _ _ (by omega) (by omega) (by rw [hr]; exact (toList_size _).2 h0) (by rw [hr]; omega) (by rw [hr]; exact a) (by rw [hr]; omega) (by rw [hr]; exact hlt) ?_⟩
        rw [hr]; exact hc
      · have hw : wrap64 (i - rd out l[j].f1) = i - rd out l[j].f1 := w64 (by omega) (by omega)
        obtain ⟨c, hc⟩ := ih (l[j].f2.toNat) (by omega) (by omega) (i - rd out l[j].f1) (by omega) (by rw [Int.toNat_of_nonneg a']; omega)
        rw [Int.toNat_of_nonneg a'] at hc
        refine ⟨c, .right _ _ _ (by omega) (by omega) (by rw [hr]; exact (toList_size _).2 h0) (by rw [hr]; omega) (by rw [hr]; exact a) (by rw [hr]; omega) (by rw [hr]; exact hlt) ?_⟩
        rw [hr, hw]; exact hc
theorem LetR.bound {l : List S55} {o : List Int} {n i c : Int} (h : LetR l o n i c) : 0 ≤ n ∧ n < l.length := by
  cases h <;> exact ⟨by assumption, by assumption⟩
def shiftN (s : Nat) (x : S55) : S55 := if x.f0.toList = [] then (if x.f3 = 0 then ⟨x.f0, wrap64 (x.f1 + s), wrap64 (x.f2 + s), x.f3⟩ else ⟨x.f0, wrap64 (x.f1 + s), x.f2, x.f3⟩) else x
theorem shiftN_f0 (s : Nat) (x : S55) : (shiftN s x).f0 = x.f0 := by unfold shiftN; split <;> (try split) <;> rfl
theorem shiftN_f3 (s : Nat) (x : S55) : (shiftN s x).f3 = x.f3 := by unfold shiftN; split <;> (try split) <;> rfl
theorem shiftN_f1 (s : Nat) (x : S55) (h : x.f0.toList = []) : (shiftN s x).f1 = wrap64 (x.f1 + s) := by unfold shiftN; rw [if_pos h]; split <;> rfl
theorem shiftN_f2 (s : Nat) (x : S55) (h : x.f0.toList = []) (h3 : x.f3 = 0) : (shiftN s x).f2 = wrap64 (x.f2 + s) := by unfold shiftN; rw [if_pos h, if_pos h3]
theorem LetR.shift {b l : List S55} {ob o : List Int} {s : Nat} (hs : s ≤ 4000) (hb : Rope b ob) (hl : ∀ n : Int, 0 ≤ n → n < b.length → n + s < l.length ∧ rd_T55 l (n + s) = shiftN s (rd_T55 b n)) (ho : ∀ n : Int, 0 ≤ n → n < b.length → n + s < o.length ∧ rd o (n + s) = rd ob n) {n i c : Int} (h : LetR b ob n i c) : LetR l o (n + s) i c := by
  have hlen := hb.len
  have hle := hb.le
  induction h with
  | leaf n i h0 h1 hw i0 i1 =>
    obtain ⟨a1, a2⟩ := hl n h0 h1
    have hf : (rd_T55 l (n + s)).f0 = (rd_T55 b n).f0 := by rw [a2, shiftN_f0]
    have := LetR.leaf (l := l) (o := o) (n + s) i (by omega) a1 (by rw [hf]; exact hw) i0 (by rw [hf]; exact i1)
    rw [hf] at this
    exact this
  | times n i c h0 h1 hw ht f0 f1 hz h ih =>
    obtain ⟨a1, a2⟩ := hl n h0 h1
    have e0 : (rd_T55 l (n + s)).f0 = (rd_T55 b n).f0 := by rw [a2, shiftN_f0]
    have e3 : (rd_T55 l (n + s)).f3 = (rd_T55 b n).f3 := by rw [a2, shiftN_f3]
    have e1 : (rd_T55 l (n + s)).f1 = (rd_T55 b n).f1 + s := by rw [a2, shiftN_f1 _ _ hw, w64 (by omega) (by omega)]
    obtain ⟨o1, o2⟩ := ho (rd_T55 b n).f1 f0 (by omega)
    refine .times _ _ _ (by omega) a1 (by rw [e0]; exact hw) (by rw [e3]; exact ht) (by rw [e1]; omega) (by rw [e1]; exact o1) (by rw [e1, o2]; exact hz) ?_
    rw [e1, o2]; exact ih
  | left n i c h0 h1 hw ht f0 f1 hi h ih =>
    obtain ⟨a1, a2⟩ := hl n h0 h1
    have e0 : (rd_T55 l (n + s)).f0 = (rd_T55 b n).f0 := by rw [a2, shiftN_f0]
    have e3 : (rd_T55 l (n + s)).f3 = (rd_T55 b n).f3 := by rw [a2, shiftN_f3]
    have e1 : (rd_T55 l (n + s)).f1 = (rd_T55 b n).f1 + s := by rw [a2, shiftN_f1 _ _ hw, w64 (by omega) (by omega)]
    obtain ⟨o1, o2⟩ := ho (rd_T55 b n).f1 f0 (by omega)
    refine .left _ _ _ (by omega) a1 (by rw [e0]; exact hw) (by rw [e3]; exact ht) (by rw [e1]; omega) (by rw [e1]; exact o1) (by rw [e1, o2]; exact hi) ?_
    rw [e1]; exact ih
  | right n i c h0 h1 hw ht f0 f1 hi h ih =>
    obtain ⟨a1, a2⟩ := hl n h0 h1
    have e0 : (rd_T55 l (n + s)).f0 = (rd_T55 b n).f0 := by rw [a2, shiftN_f0]
    have e3 : (rd_T55 l (n + s)).f3 = (rd_T55 b n).f3 := by rw [a2, shiftN_f3]
    have e1 : (rd_T55 l (n + s)).f1 = (rd_T55 b n).f1 + s := by rw [a2, shiftN_f1 _ _ hw, w64 (by omega) (by omega)]
    have hb2 := h.bound
    have h3 : (rd_T55 b n).f3 = 0 := by
      have hx : b[n.toNat]? = some b[n.toNat] := List.getElem?_eq_getElem (by omega)
      obtain ⟨v, hv, v1, v2, hn⟩ := hb.is hx
      have hr := rdT_at hx
      rw [Int.toNat_of_nonneg h0] at hr
      rw [hr] at ht hw ⊢
      cases hn with
      | leaf q _ => exact absurd ((toList_size _).1 hw) q
      | times _ q _ _ _ _ => omega
      | pair _ q _ _ _ _ _ => exact q
    have e2 : (rd_T55 l (n + s)).f2 = (rd_T55 b n).f2 + s := by rw [a2, shiftN_f2 _ _ hw h3, w64 (by omega) (by omega)]
    obtain ⟨o1, o2⟩ := ho (rd_T55 b n).f1 f0 (by omega)
    refine .right _ _ _ (by omega) a1 (by rw [e0]; exact hw) (by rw [e3]; exact ht) (by rw [e1]; omega) (by rw [e1]; exact o1) (by rw [e1, o2]; exact hi) ?_
    rw [e1, e2, o2]; exact ih
theorem LetR.app {a r : List S55} {oa p : List Int} (hl : oa.length = a.length) {n i c : Int} (h : LetR a oa n i c) : LetR (a ++ r) (oa ++ p) n i c := by
  have hx : ∀ n : Int, 0 ≤ n → n < a.length → rd_T55 (a ++ r) n = rd_T55 a n := fun n h0 h1 => by
    unfold rd_T55
    rw [List.getD_eq_getElem?_getD, List.getD_eq_getElem?_getD, List.getElem?_append_left (by omega)]
  have ho : ∀ n : Int, 0 ≤ n → n < oa.length → rd (oa ++ p) n = rd oa n := fun n h0 h1 => by
    unfold rd
    rw [List.getD_eq_getElem?_getD, List.getD_eq_getElem?_getD, List.getElem?_append_left (by omega)]
  have hlt : ∀ n : Int, n < a.length → n < (a ++ r).length := fun n h => by rw [List.length_append]; omega
  have hlo : ∀ n : Int, n < oa.length → n < (oa ++ p).length := fun n h => by rw [List.length_append]; omega
  induction h with
  | leaf n i h0 h1 hw i0 i1 =>
    have := LetR.leaf (l := a ++ r) (o := oa ++ p) n i h0 (hlt n h1) (by rw [hx n h0 h1]; exact hw) i0 (by rw [hx n h0 h1]; exact i1)
    rw [hx n h0 h1] at this
    exact this
  | times n i c h0 h1 hw ht f0 f1 hz h ih =>
    refine .times _ _ _ h0 (hlt n h1) (by rw [hx n h0 h1]; exact hw) (by rw [hx n h0 h1]; exact ht) (by rw [hx n h0 h1]; exact f0) (by rw [hx n h0 h1]; exact hlo _ f1) (by rw [hx n h0 h1, ho _ f0 f1]; exact hz) ?_
    rw [hx n h0 h1, ho _ f0 f1]; exact ih
  | left n i c h0 h1 hw ht f0 f1 hi h ih =>
    refine .left _ _ _ h0 (hlt n h1) (by rw [hx n h0 h1]; exact hw) (by rw [hx n h0 h1]; exact ht) (by rw [hx n h0 h1]; exact f0) (by rw [hx n h0 h1]; exact hlo _ f1) (by rw [hx n h0 h1, ho _ f0 f1]; exact hi) ?_
    rw [hx n h0 h1]; exact ih
  | right n i c h0 h1 hw ht f0 f1 hi h ih =>
    refine .right _ _ _ h0 (hlt n h1) (by rw [hx n h0 h1]; exact hw) (by rw [hx n h0 h1]; exact ht) (by rw [hx n h0 h1]; exact f0) (by rw [hx n h0 h1]; exact hlo _ f1) (by rw [hx n h0 h1, ho _ f0 f1]; exact hi) ?_
    rw [hx n h0 h1, ho _ f0 f1]; exact ih
end H
end Go.Proofs.YtehbekgmemebjaaDoor.PAll
