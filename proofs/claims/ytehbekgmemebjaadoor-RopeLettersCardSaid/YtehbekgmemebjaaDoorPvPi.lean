import Derived.Test.YtehbekgmemebjaaDoorPvPc
import Derived.Test.YtehbekgmemebjaaDoorPvRl
namespace Go.Proofs.YtehbekgmemebjaaDoorEv
open Go Go.RowKit Go.Proofs.YtehbekgmemebjaaDoor.PAll.H Go.Proofs.YtehbekgmemebjaaDoorW.PrintWords
set_option linter.unusedVariables false
set_option linter.unusedSimpArgs false
def wordOf (done : List (List Int)) (x : S55) : List Int :=
  if x.f0.size ≠ 0 then bytesOf x.f0
  else if x.f3 ≠ 0 then (List.replicate x.f3.toNat (done.getD x.f1.toNat [])).flatten
  else done.getD x.f1.toNat [] ++ done.getD x.f2.toNat []
def costOf (done : List Nat) (x : S55) : Nat :=
  if x.f0.size ≠ 0 then 1
  else if x.f3 ≠ 0 then 2 + x.f3.toNat * done.getD x.f1.toNat 0
  else 3 + done.getD x.f1.toNat 0 + done.getD x.f2.toNat 0
def foldD {α : Type} (f : List α → S55 → α) : List α → List S55 → List α
  | done, [] => done
  | done, x :: r => foldD f (done ++ [f done x]) r
theorem foldD_spec {α : Type} (f : List α → S55 → α) : ∀ (rest : List S55) (done : List α), (foldD f done rest).length = done.length + rest.length ∧ (foldD f done rest).take done.length = done ∧ ∀ (j : Nat) (x : S55), rest[j]? = some x → (foldD f done rest)[done.length + j]? = some (f ((foldD f done rest).take (done.length + j)) x) := by
  intro rest
  induction rest with
  | nil => intro done; exact ⟨by simp [foldD], by simp [foldD], fun j x h => by simp at h⟩
  | cons y r ih =>
    intro done
    obtain ⟨a, b, c⟩ := ih (done ++ [f done y])
    rw [List.length_append, List.length_singleton] at a b c
    have b2 : (foldD f (done ++ [f done y]) r).take done.length = done := by
      have := congrArg (List.take done.length) b
      rw [List.take_take, Nat.min_eq_left (by omega), List.take_left] at this
      exact this
    refine ⟨by simp only [foldD, List.length_cons]; omega, b2, fun j x hx => ?_⟩
    simp only [foldD]
    cases j with
    | zero =>
      simp only [List.getElem?_cons_zero, Option.some.injEq] at hx
      subst hx
      rw [Nat.add_zero, b2]
      have := congrArg (fun l => l[done.length]?) b
      simp only [List.getElem?_take] at this
      rw [if_pos (by omega)] at this
      rw [this]
      simp
    | succ j =>
      have := c j x (by simpa using hx)
      rw [show done.length + (j + 1) = done.length + 1 + j by omega]
      exact this
def wordsL (l : List S55) : List (List Int) := foldD wordOf [] l
def costs (l : List S55) : List Nat := foldD costOf [] l
def Wd (l : List S55) (n : Nat) : List Int := (wordsL l).getD n []
def Tc (l : List S55) (n : Nat) : Nat := (costs l).getD n 0
theorem getD_take {α : Type} {l : List α} {j n : Nat} {d : α} (h : j < n) : (l.take n).getD j d = l.getD j d := by
  rw [List.getD_eq_getElem?_getD, List.getD_eq_getElem?_getD, List.getElem?_take, if_pos h]
theorem W_at {l : List S55} {n : Nat} {x : S55} (hx : l[n]? = some x) : Wd l n = wordOf ((wordsL l).take n) x := by
  have := (foldD_spec wordOf l []).2.2 n x hx
  simp only [List.length_nil, Nat.zero_add] at this
  unfold Wd wordsL
  rw [List.getD_eq_getElem?_getD, this]
  rfl
theorem T_at {l : List S55} {n : Nat} {x : S55} (hx : l[n]? = some x) : Tc l n = costOf ((costs l).take n) x := by
  have := (foldD_spec costOf l []).2.2 n x hx
  simp only [List.length_nil, Nat.zero_add] at this
  unfold Tc costs
  rw [List.getD_eq_getElem?_getD, this]
  rfl
section
variable {l : List S55} {o : List Int}
inductive WI (l : List S55) (o : List Int) (n : Nat) (x : S55) : Prop
  | leaf (h : x.f0.size ≠ 0) (hw : Wd l n = bytesOf x.f0) (ht : Tc l n = 1) (hv : rd o (n : Int) = x.f0.size)
  | times (a t : Nat) (h : x.f0.size = 0) (h1 : x.f1 = (a : Int)) (h3 : x.f3 = (t : Int)) (ht0 : 1 ≤ t) (ha : a < n) (hw : Wd l n = (List.replicate t (Wd l a)).flatten) (ht : Tc l n = 2 + t * Tc l a) (hv : rd o (n : Int) = t * rd o (a : Int))
  | pair (a b : Nat) (h : x.f0.size = 0) (h3 : x.f3 = 0) (h1 : x.f1 = (a : Int)) (h2 : x.f2 = (b : Int)) (ha : a < n) (hb : b < n) (hw : Wd l n = Wd l a ++ Wd l b) (ht : Tc l n = 3 + Tc l a + Tc l b) (hv : rd o (n : Int) = rd o (a : Int) + rd o (b : Int))
theorem wi (h : Rope l o) {n : Nat} {x : S55} (hx : l[n]? = some x) : WI l o n x := by
  obtain ⟨v, hv, v1, v2, hn⟩ := h.is hx
  have hrd := rd_at' hv
  have hw := W_at hx
  have ht := T_at hx
  cases hn with
  | leaf q e =>
    refine .leaf q ?_ ?_ (hrd.trans e)
    · rw [hw]; unfold wordOf; rw [if_pos q]
    · rw [ht]; unfold costOf; rw [if_pos q]
  | times q t0 a b c e =>
    obtain ⟨a', ha'⟩ : ∃ a' : Nat, x.f1 = (a' : Int) := ⟨x.f1.toNat, (Int.toNat_of_nonneg a).symm⟩
    obtain ⟨t', ht'⟩ : ∃ t' : Nat, x.f3 = (t' : Int) := ⟨x.f3.toNat, (Int.toNat_of_nonneg (by omega)).symm⟩
    refine .times a' t' q ha' ht' (by omega) (by omega) ?_ ?_ (by rw [hrd, e, ha', ht'])
    · rw [hw]; unfold wordOf
      rw [if_neg (by omega), if_pos (by omega), ha', ht', Int.toNat_natCast, Int.toNat_natCast, getD_take (by omega)]
      rfl
    · rw [ht]; unfold costOf
      rw [if_neg (by omega), if_pos (by omega), ha', ht', Int.toNat_natCast, Int.toNat_natCast, getD_take (by omega)]
      rfl
  | pair q t0 a b c d e =>
    obtain ⟨a', ha'⟩ : ∃ a' : Nat, x.f1 = (a' : Int) := ⟨x.f1.toNat, (Int.toNat_of_nonneg a).symm⟩
    obtain ⟨b', hb'⟩ : ∃ b' : Nat, x.f2 = (b' : Int) := ⟨x.f2.toNat, (Int.toNat_of_nonneg c).symm⟩
    refine .pair a' b' q t0 ha' hb' (by omega) (by omega) ?_ ?_ (by rw [hrd, e, ha', hb'])
    · rw [hw]; unfold wordOf
      rw [if_neg (by omega), if_neg (by omega), ha', hb', Int.toNat_natCast, Int.toNat_natCast, getD_take (by omega), getD_take (by omega)]
      rfl
    · rw [ht]; unfold costOf
      rw [if_neg (by omega), if_neg (by omega), ha', hb', Int.toNat_natCast, Int.toNat_natCast, getD_take (by omega), getD_take (by omega)]
      rfl
theorem W_len (h : Rope l o) : ∀ (n : Nat), n < l.length → ((Wd l n).length : Int) = rd o (n : Int) := by
  intro n
  induction n using Nat.strongRecOn with
  | _ n ih =>
    intro hn
    cases wi h (List.getElem?_eq_getElem hn) with
    | leaf q hw ht hv => rw [hw, bytesOf_length, hv]
    | times a t q h1 h3 t0 ha hw ht hv =>
      rw [hw, hv, ← ih a ha (by omega)]
      simp
    | pair a b q h3 h1 h2 ha hb hw ht hv => rw [hw, hv, ← ih a ha (by omega), ← ih b hb (by omega)]; simp
theorem T_le (h : Rope l o) : ∀ (n : Nat), n < l.length → Tc l n ≤ 3 * (n + 1) * (Wd l n).length := by
  intro n
  induction n using Nat.strongRecOn with
  | _ n ih =>
    intro hn
    have hlen := W_len h n hn
    have hgood := (h.good.rd (i := (n : Int)) (by omega) (by rw [h.len]; omega)).1
    have h1 : 1 ≤ (Wd l n).length := by omega
    cases wi h (List.getElem?_eq_getElem hn) with
    | leaf q hw ht hv =>
      rw [ht]
      exact Nat.le_trans (by omega) (Nat.mul_le_mul (show 1 ≤ 3 * (n + 1) by omega) h1)
    | times a t q e1 e3 t0 ha hw ht hv =>
      have ia := ih a ha (by omega)
      have hl : (Wd l n).length = t * (Wd l a).length := by rw [hw]; simp
      have q1 : Tc l a ≤ 3 * n * (Wd l a).length := Nat.le_trans ia (Nat.mul_le_mul_right _ (by omega))
      have q2 : t * Tc l a ≤ 3 * n * (Wd l n).length := by
        rw [hl]
        calc t * Tc l a ≤ t * (3 * n * (Wd l a).length) := Nat.mul_le_mul_left _ q1
          _ = 3 * n * (t * (Wd l a).length) := by rw [Nat.mul_left_comm]
      rw [ht]
      have e : 3 * (n + 1) * (Wd l n).length = 3 * n * (Wd l n).length + 3 * (Wd l n).length := by rw [Nat.mul_add, Nat.add_mul]
      omega
    | pair a b q e3 e1 e2 ha hb hw ht hv =>
      have ia := ih a ha (by omega)
      have ib := ih b hb (by omega)
      have hl : (Wd l n).length = (Wd l a).length + (Wd l b).length := by rw [hw]; simp
      have q1 : Tc l a ≤ 3 * n * (Wd l a).length := Nat.le_trans ia (Nat.mul_le_mul_right _ (by omega))
      have q2 : Tc l b ≤ 3 * n * (Wd l b).length := Nat.le_trans ib (Nat.mul_le_mul_right _ (by omega))
      rw [ht]
      have e : 3 * (n + 1) * (Wd l n).length = 3 * n * (Wd l a).length + 3 * n * (Wd l b).length + 3 * (Wd l n).length := by rw [Nat.mul_add, Nat.add_mul, hl, Nat.mul_add]
      omega
theorem flat_rd {w : List Int} : ∀ (t : Nat) (i : Nat), i < t * w.length → (List.replicate t w).flatten[i]? = w[i % w.length]?
  | 0, i, h => by simp at h
  | t + 1, i, h => by
    rw [List.replicate_succ, List.flatten_cons]
    by_cases hi : i < w.length
    · rw [List.getElem?_append_left hi, Nat.mod_eq_of_lt hi]
    · rw [List.getElem?_append_right (by omega), flat_rd t (i - w.length) (by rw [Nat.add_mul] at h; omega)]
      have : i % w.length = (i - w.length) % w.length := (Nat.mod_eq_sub_mod (by omega))
      rw [this]
theorem W_let (h : Rope l o) : ∀ (n : Nat), n < l.length → ∀ (i : Nat) (c : Int), (Wd l n)[i]? = some c → LetR l o (n : Int) (i : Int) c := by
  intro n
  induction n using Nat.strongRecOn with
  | _ n ih =>
    intro hn i c hc
    have hx : l[n]? = some l[n] := List.getElem?_eq_getElem hn
    obtain ⟨x, hxx⟩ : ∃ x, l[n] = x := ⟨_, rfl⟩
    rw [hxx] at hx
    have hr := rdT_at hx
    have hlen := W_len h n hn
    have hlo := h.len
    have hi : i < (Wd l n).length := (List.getElem?_eq_some_iff.1 hc).1
    cases wi h hx with
    | leaf q hw ht hv =>
      have e : c = bt (rd_T55 l (n : Int)).f0 (i : Int) := by
        rw [hr, ← rd_bytesOf]
        rw [hw] at hc
        unfold rd
        rw [Int.toNat_natCast, List.getD_eq_getElem?_getD, hc]
        rfl
      rw [e]
      rw [hw, bytesOf_length] at hi
      exact .leaf _ _ (by omega) (by omega) (by rw [hr]; intro hc; exact q ((toList_size _).1 hc)) (by omega) (by rw [hr]; omega)
    | times a t q h1 h3 t0 ha hw ht hv =>
      have hla := W_len h a (by omega)
      have hga := (h.good.rd (i := (a : Int)) (by omega) (by omega)).1
      have hl : (Wd l n).length = t * (Wd l a).length := by rw [hw]; simp
      rw [hw, flat_rd t i (by omega)] at hc
      have := ih a ha (by omega) _ c hc
      have em : ((i % (Wd l a).length : Nat) : Int) = Int.tmod (i : Int) (rd o (a : Int)) := by rw [Int.tmod_eq_emod_of_nonneg (by omega), ← hla]; rfl
      rw [em] at this
      refine .times _ _ _ (by omega) (by omega) (by rw [hr]; exact (toList_size _).2 q) (by rw [hr]; omega) (by rw [hr]; omega) (by rw [hr]; omega) (by rw [hr, h1]; omega) ?_
      rw [hr, h1]
      exact this
    | pair a b q h3 h1 h2 ha hb hw ht hv =>
      have hla := W_len h a (by omega)
      have hlb := W_len h b (by omega)
      rw [hw, List.getElem?_append] at hc
      split at hc
      · rename_i hia
        refine .left _ _ _ (by omega) (by omega) (by rw [hr]; exact (toList_size _).2 q) (by rw [hr]; omega) (by rw [hr]; omega) (by rw [hr]; omega) (by rw [hr, h1]; omega) ?_
        rw [hr, h1]
        exact ih a ha (by omega) i c hc
      · rename_i hia
        have := ih b hb (by omega) _ c hc
        have hga := h.good.rd (i := (a : Int)) (by omega) (by omega)
        have hgn := h.good.rd (i := (n : Int)) (by omega) (by omega)
        have ew : wrap64 ((i : Int) - rd o (a : Int)) = ((i - (Wd l a).length : Nat) : Int) := by rw [w64 (by omega) (by omega)]; omega
        refine .right _ _ _ (by omega) (by omega) (by rw [hr]; exact (toList_size _).2 q) (by rw [hr]; omega) (by rw [hr]; omega) (by rw [hr]; omega) (by rw [hr, h1]; omega) ?_
        rw [hr, h1, h2, ew]
        exact this
end
end Go.Proofs.YtehbekgmemebjaaDoorEv
namespace Go.Proofs.YtehbekgmemebjaaDoorEv
open Go Go.RowKit Go.Proofs.YtehbekgmemebjaaDoor.PAll.H Go.Proofs.YtehbekgmemebjaaDoorW.PrintWords
set_option linter.unusedVariables false
set_option linter.unusedSimpArgs false
theorem H31_some (k : Nat) {l : List Nd} {o : List Int} (h : lens (mS l) = some o) : F31 k (l, ()) = some (o, 0, ()) := by
  unfold F31
  have : lens (l.map toS) = some o := h
  simp only [this]
theorem H31_none (k : Nat) {l : List Nd} (h : lens (mS l) = none) : F31 k (l, ()) = some ([], 20, ()) := by
  unfold F31
  have : lens (l.map toS) = none := h
  simp only [this]
theorem at_loop {l : List Nd} {o : List Int} {F : Nat → List Int × List Nd × Int × Int × Unit → Option (Sum (List Int × List Nd × Int × Int × Unit) (Sum (List Nd × Int × Int × Unit) Empty))}
    (h1 : ∀ k n i x, atL l n = some x → x.1.size ≠ 0 → F k (o, l, n, i, ()) = some (.inr (.inl (l, n, i, ()))))
    (h2 : ∀ k n i x L, atL l n = some x → x.1.size = 0 → x.2.2.2.1 ≠ 0 → atL o x.2.1 = some L → L ≠ 0 → F k (o, l, n, i, ()) = some (.inl (o, l, x.2.1, Int.tmod i L, ())))
    (h3 : ∀ k n i x L, atL l n = some x → x.1.size = 0 → x.2.2.2.1 = 0 → atL o x.2.1 = some L → i < L → F k (o, l, n, i, ()) = some (.inl (o, l, x.2.1, i, ())))
    (h4 : ∀ k n i x L, atL l n = some x → x.1.size = 0 → x.2.2.2.1 = 0 → atL o x.2.1 = some L → ¬ i < L → F k (o, l, n, i, ()) = some (.inl (o, l, x.2.2.1, wrap64 (i - L), ())))
    (hr : Rope (mS l) o) {n i c : Int} (h : LetR (mS l) o n i c) : ∃ n' i' x, atL l n' = some x ∧ atB x.1 i' = some c ∧ EvI F (o, l, n, i, ()) (.inl (l, n', i', ())) := by
  have pair3 : ∀ (n : Int) (x : Nd), 0 ≤ n → l[n.toNat]? = some x → x.1.size = 0 → ¬ x.2.2.2.1 > 0 → x.2.2.2.1 = 0 := fun n x h0 hx hs ht => by
    obtain ⟨v, hv, v1, v2, hn⟩ := hr.is (j := n.toNat) (x := toS x) (by rw [List.getElem?_map, hx]; rfl)
    cases hn with
    | leaf q _ => exact absurd hs q
    | times _ q _ _ _ _ => exact absurd (show x.2.2.2.1 > 0 from by have : 1 ≤ x.2.2.2.1 := q; omega) ht
    | pair _ q _ _ _ _ _ => exact q
  induction h with
  | leaf n i h0 hn hw i0 i1 =>
    obtain ⟨x, e1, e2, e3⟩ := mS_at h0 hn
    rw [e2] at hw i1 ⊢
    have hs : x.1.size ≠ 0 := fun h => hw ((toList_size _).2 h)
    exact ⟨n, i, x, e1, atB_bt i0 i1, .done (Evn.eq fun k => h1 k n i x e1 hs)⟩
  | times n i c h0 hn hw ht f0 f1 hz h ih =>
    obtain ⟨x, e1, e2, e3⟩ := mS_at h0 hn
    rw [e2] at hw ht f0 f1 hz ih
    obtain ⟨n', i', x', q1, q2, q3⟩ := ih
    have hs : x.1.size = 0 := (toList_size _).1 hw
    have ht' : x.2.2.2.1 > 0 := ht
    exact ⟨n', i', x', q1, q2, .step (Evn.eq fun k => h2 k n i x _ e1 hs (by omega) (atL_rd f0 f1) hz) q3⟩
  | left n i c h0 hn hw ht f0 f1 hi h ih =>
    obtain ⟨x, e1, e2, e3⟩ := mS_at h0 hn
    rw [e2] at hw ht f0 f1 hi ih
    obtain ⟨n', i', x', q1, q2, q3⟩ := ih
    have hs : x.1.size = 0 := (toList_size _).1 hw
    exact ⟨n', i', x', q1, q2, .step (Evn.eq fun k => h3 k n i x _ e1 hs (pair3 n x h0 e3 hs ht) (atL_rd f0 f1) hi) q3⟩
  | right n i c h0 hn hw ht f0 f1 hi h ih =>
    obtain ⟨x, e1, e2, e3⟩ := mS_at h0 hn
    rw [e2] at hw ht f0 f1 hi ih
    obtain ⟨n', i', x', q1, q2, q3⟩ := ih
    have hs : x.1.size = 0 := (toList_size _).1 hw
    exact ⟨n', i', x', q1, q2, .step (Evn.eq fun k => h4 k n i x _ e1 hs (pair3 n x h0 e3 hs ht) (atL_rd f0 f1) hi) q3⟩
theorem F17_none {l : List Nd} {i : Int} (h : lens (mS l) = none) : Evn (fun k => F17 k (l, i, ())) (0, 20, ()) := by
  unfold F17
  simp only []
  exact Evn.bind (Evn.eq fun k => H31_none k h) (Evn.now _)
theorem F17_out {l : List Nd} {o : List Int} {i : Int} (h : lens (mS l) = some o) (hi : i < 0 ∨ wholeL o ≤ i) : Evn (fun k => F17 k (l, i, ())) (0, 1, ()) := by
  have hlen := (rope_of h).len
  have hle := (rope_of h).le
  unfold F17
  simp only []
  refine Evn.bind (Evn.eq fun k => H31_some k h) ?_
  simp only [bne_self_eq_false, Bool.false_eq_true, if_false]
  refine Evn.bind (a := Sum.inl (true, o, l, i, ())) (Evn.eq fun k => ?_) (Evn.now _)
  by_cases h0 : i < 0
  · rw [if_pos (decide_eq_true h0)]
  · rw [if_neg (fun h => h0 (of_decide_eq_true h)), F32_ev k (by omega)]
    simp only [Option.bind_some]
    rw [decide_eq_true (show i ≥ wholeL o by omega)]
theorem F17_in {l : List Nd} {o : List Int} {i c : Int} (h : lens (mS l) = some o) (h0 : 0 ≤ i) (h1 : i < wholeL o) (hc : LetR (mS l) o (((mS l).length : Int) - 1) i c) : Evn (fun k => F17 k (l, i, ())) (c, 0, ()) := by
  have hr := rope_of h
  have hlen := hr.len
  have hle := hr.le
  rw [mS_len] at hc hle hlen
  unfold F17
  simp only []
  refine Evn.bind (Evn.eq fun k => H31_some k h) ?_
  simp only [bne_self_eq_false, Bool.false_eq_true, if_false]
  refine Evn.bind (a := Sum.inl (false, o, l, i, ())) (Evn.eq fun k => ?_) ?_
  · rw [if_neg (fun h => absurd (of_decide_eq_true h) (by omega)), F32_ev k (by omega)]
    simp only [Option.bind_some]
    rw [decide_eq_false (show ¬ i ≥ wholeL o by omega)]
  · simp only [sumE, Bool.false_eq_true, if_false, i64w (show -9223372036854775808 ≤ (l.length : Int) - 1 by omega) (show (l.length : Int) - 1 ≤ 9223372036854775807 by omega)]
    have key := at_loop (l := l) (o := o) (F := fun k (e : List Int × List (ByteArray × Int × Int × Int × Unit) × Int × Int × Unit) =>
                      (atL e.snd.fst e.snd.snd.fst).bind fun (x : ByteArray × Int × Int × Int × Unit) =>
                        if (x.fst.toList == (⟨#[]⟩ : ByteArray).toList) = true then
                          (atL e.snd.fst e.snd.snd.fst).bind fun (x : ByteArray × Int × Int × Int × Unit) =>
                            if (x.snd.snd.snd.fst != (0 : Int)) = true then
                              (atL e.fst x.snd.fst).bind fun (x_1 : Int) =>
                                (if x_1 = (0 : Int) then none else some (e.snd.snd.snd.fst.tmod x_1)).bind
                                  fun (x_2 : Int) => some (Sum.inl (e.fst, e.snd.fst, x.snd.fst, x_2, ()))
                            else
                              (atL e.fst x.snd.fst).bind fun (x_1 : Int) =>
                                if decide (e.snd.snd.snd.fst < x_1) = true then
                                  some (Sum.inl (e.fst, e.snd.fst, x.snd.fst, e.snd.snd.snd.fst, ()))
                                else
                                  (atL e.fst x.snd.fst).bind fun (x_2 : Int) =>
                                    some
                                      (Sum.inl
                                        (e.fst, e.snd.fst, x.snd.snd.fst, IntKind.i64.wrap (e.snd.snd.snd.fst - x_2),
                                          ()))
                        else some (Sum.inr (Sum.inl (e.snd.fst, e.snd.snd.fst, e.snd.snd.snd.fst, ()))))
      (fun k n i x e1 hs => by simp only [e1, Option.bind_some, toL_eq, decide_eq_false hs, Bool.false_eq_true, if_false])
      (fun k n i x L e1 hs ht e2 hz => by
        have ht' : (x.2.2.2.1 != (0 : Int)) = true := by simpa using ht
        simp only [e1, Option.bind_some, toL_eq, decide_eq_true hs, if_true, ht', e2, if_neg hz])
      (fun k n i x L e1 hs ht e2 hi => by
        have ht' : (x.2.2.2.1 != (0 : Int)) = false := by simpa using ht
        simp only [e1, Option.bind_some, toL_eq, decide_eq_true hs, if_true, ht', Bool.false_eq_true, if_false, e2, decide_eq_true hi])
      (fun k n i x L e1 hs ht e2 hi => by
        have ht' : (x.2.2.2.1 != (0 : Int)) = false := by simpa using ht
        simp only [e1, Option.bind_some, toL_eq, decide_eq_true hs, if_true, ht', Bool.false_eq_true, if_false, e2, decide_eq_false hi, i64wrap]) hr hc
    obtain ⟨n', i', x, q1, q2, q3⟩ := key
    refine Evn.bind q3.ev (Evn.eq fun k => ?_)
    simp only [sumE, q1, Option.bind_some, q2]
def ropeW (l : List S55) : List Int := if l.length = 0 then [] else Wd l (l.length - 1)
theorem ropeW_len {l : List S55} {o : List Int} (h : Rope l o) : ((ropeW l).length : Int) = wholeL o := by
  have hlen := h.len
  unfold ropeW wholeL
  by_cases h0 : l.length = 0
  · rw [if_pos h0, if_pos (by omega)]; rfl
  · rw [if_neg h0, if_neg (by omega), W_len h _ (by omega)]
    unfold lastL
    rw [hlen, show ((l.length - 1 : Nat) : Int) = (l.length : Int) - 1 by omega]
theorem ropeW_let {l : List S55} {o : List Int} (h : Rope l o) {i : Nat} {c : Int} (hc : (ropeW l)[i]? = some c) : LetR l o ((l.length : Int) - 1) (i : Int) c := by
  unfold ropeW at hc
  by_cases h0 : l.length = 0
  · rw [if_pos h0] at hc
    simp at hc
  · rw [if_neg h0] at hc
    have := W_let h _ (by omega) i c hc
    rw [show ((l.length - 1 : Nat) : Int) = (l.length : Int) - 1 by omega] at this
    exact this
theorem F19_none {l : List Nd} (hs : Short l) (h : lens (mS l) = none) : Evn (fun k => F19 k (l, ())) (⟨#[]⟩, 20, ()) := by
  unfold F19
  simp only []
  exact Evn.bind (F12_none hs h) (Evn.now _)
theorem F19_long {l : List Nd} {o : List Int} (hs : Short l) (h : lens (mS l) = some o) (hl : wholeL o > 100000) : Evn (fun k => F19 k (l, ())) (⟨#[]⟩, 2, ()) := by
  unfold F19
  simp only []
  refine Evn.bind (F12_some hs h) ?_
  simp only [bne_self_eq_false, Bool.false_eq_true, if_false, decide_eq_true hl, if_true]
  exact Evn.now _
theorem F19_ok {l : List Nd} {o : List Int} (hs : Short l) (h : lens (mS l) = some o) (hl : ¬ wholeL o > 100000) : Evn (fun k => F19 k (l, ())) (strOfNums (ropeW (mS l)), 0, ()) := by
  have hr := rope_of h
  have hle := hr.le
  have hw := ropeW_len hr
  rw [mS_len] at hle
  unfold F19
  simp only []
  refine Evn.bind (F12_some hs h) ?_
  simp only [bne_self_eq_false, Bool.false_eq_true, if_false, decide_eq_false hl]
  refine Evn.bind (F35_some hs h) ?_
  refine Evn.bind (a := Sum.inl (ropeW (mS l), ())) (EvI.ev ?_) (Evn.now _)
  refine EvI.inv (fun a b => ∃ i : Nat, a = ((i : Int), wholeL o, o, l, (ropeW (mS l)).take i, ()) ∧ i ≤ (ropeW (mS l)).length ∧ b = Sum.inl (ropeW (mS l), ())) (fun a => (ropeW (mS l)).length - a.1.toNat) ?_ _ _ ⟨0, rfl, Nat.zero_le _, rfl⟩
  rintro a b ⟨i, rfl, hi, rfl⟩
  by_cases hil : i < (ropeW (mS l)).length
  · have hc : (i : Int) < wholeL o := by omega
    obtain ⟨c, hcc⟩ : ∃ c, (ropeW (mS l))[i]? = some c := ⟨_, List.getElem?_eq_getElem hil⟩
    have hlet := ropeW_let hr hcc
    rw [mS_len] at hlet
    have hwi : IntKind.i64.wrap ((i : Int) + 1) = ((i + 1 : Nat) : Int) := by rw [i64w (by omega) (by omega)]; omega
    refine ⟨.inl (((i + 1 : Nat) : Int), wholeL o, o, l, (ropeW (mS l)).take (i + 1), ()), ?_, ?_, i + 1, rfl, by omega, rfl⟩
    · simp only [decide_eq_true hc, if_true, i64w (show -9223372036854775808 ≤ (l.length : Int) - 1 by omega) (show (l.length : Int) - 1 ≤ 9223372036854775807 by omega)]
      refine Evn.bind (F37_ev hlet) (Evn.eq fun k => ?_)
      have hb : bigB (((ropeW (mS l)).take i).length + ((List.replicate (1 : Nat) (0 : Int)).set (0 : Nat) c).length) (1 : Nat) = false := bigF (by simp only [List.length_take, List.length_set, List.length_replicate]; omega) (by omega)
      have ht : (ropeW (mS l)).take i ++ (List.replicate (1 : Nat) (0 : Int)).set (0 : Nat) c = (ropeW (mS l)).take (i + 1) := by
        rw [List.take_add_one, hcc]
        rfl
      simp only [hb, Bool.false_eq_true, if_false, hwi, ht]
    · simp only []
      omega
  · have hie : i = (ropeW (mS l)).length := by omega
    refine ⟨.inr (.inl (ropeW (mS l), ())), Evn.eq fun k => ?_, rfl⟩
    have hall : (ropeW (mS l)).take i = ropeW (mS l) := List.take_of_length_le (by omega)
    rw [hall]
    have hnc : ¬ (i : Int) < wholeL o := by omega
    simp only [decide_eq_false hnc, Bool.false_eq_true, if_false]
end Go.Proofs.YtehbekgmemebjaaDoorEv
