import Derived.Test.YtehbekgmemebjaaDoorPvPe
import Derived.Test.YtehbekgmemebjaaDoorExtK
import Derived.Test.YtehbekgmemebjaaDoorRows
import Derived.OpenShut
namespace Go.Proofs.YtehbekgmemebjaaDoorEv
open Go Go.RowKit Go.Proofs.YtehbekgmemebjaaDoor.PAll.H Go.Proofs.YtehbekgmemebjaaDoorW.PrintWords
set_option linter.unusedVariables false
set_option linter.unusedSimpArgs false
theorem F13_ev (k : Nat) : F13 k () = some (true, ()) := rfl
theorem short_turn {a : List Nd} (h : Short a) : Short (a.map turn) := by
  intro x hx
  obtain ⟨y, hy, rfl⟩ := List.mem_map.1 hx
  have := h y hy
  unfold turn
  split
  · split <;> exact this
  · show ((invS y.1).size : Int) ≤ _
    rw [invS_size]
    exact this
theorem lens_turn {a : List Nd} {o : List Int} (h : lens (mS a) = some o) : lens (mS (a.map turn)) = some o := rope_lens (rope_turn (rope_of h))
theorem wholeL_eq {a : List Nd} {o : List Int} (h : lens (mS a) = some o) (hp : 0 < a.length) : wholeL o = rd o ((a.length : Int) - 1) := by
  have hlen := (rope_of h).len
  rw [mS_len] at hlen
  unfold wholeL lastL
  rw [if_neg (by omega), hlen]
theorem at_some {a : List Nd} {o : List Int} (hs : Short a) (h : lens (mS a) = some o) {i : Int} (h0 : 0 ≤ i) (h1 : i < wholeL o) : ∃ c, LetR (mS a) o ((a.length : Int) - 1) i c ∧ Evn (fun k => F14 k (a, i, ())) (c, 0, ()) := by
  obtain ⟨c, hc⟩ := letter_in h h0 h1
  have := F14_in hs h h0 h1 hc
  rw [mS_len] at hc
  exact ⟨c, hc, this⟩
theorem at_let {a : List Nd} {o : List Int} (hs : Short a) (h : lens (mS a) = some o) {i c : Int} (h0 : 0 ≤ i) (h1 : i < wholeL o) (hc : LetR (mS a) o ((a.length : Int) - 1) i c) : Evn (fun k => F14 k (a, i, ())) (c, 0, ()) :=
  F14_in hs h h0 h1 (by rw [mS_len]; exact hc)
theorem whole_nil {a : List Nd} {o : List Int} (h : lens (mS a) = some o) (hw : wholeL o > 0) : 0 < a.length := by
  have hlen := (rope_of h).len
  rw [mS_len] at hlen
  unfold wholeL at hw
  split at hw
  · omega
  · omega
theorem mirror_at {a : List Nd} {o : List Int} (h : lens (mS a) = some o) {i d : Int} (h0 : 0 ≤ i) (h1 : i < wholeL o) (hd : LetR (mS a) o ((a.length : Int) - 1) (wholeL o - 1 - i) d) : LetR (mS (a.map turn)) o ((a.length : Int) - 1) i (otherI d) := by
  have hp := whole_nil h (by omega)
  have e := wholeL_eq h hp
  have := hd.mirror (rope_of h) (by omega) (by rw [← e]; omega)
  rw [← e, show wholeL o - 1 - (wholeL o - 1 - i) = i by omega] at this
  exact this
theorem pow_ok {a : List Nd} {o : List Int} {n : Int} (hs : Short a) (h : lens (mS a) = some o) (hb : ¬ tooBig a o n) (hz : ¬ (n = 0 ∨ wholeL o = 0)) : ∃ p, lens (mS (powL a n)) = some p ∧ wholeL p = (if n < 0 then -n else n) * wholeL o ∧ Short (powL a n) ∧ (powL a n).length ≤ a.length + 1 ∧
    ∀ i c : Int, 0 ≤ i → i < (if n < 0 then -n else n) * wholeL o → LetR (mS (if n < 0 then a.map turn else a)) o ((a.length : Int) - 1) (Int.tmod i (wholeL o)) c → LetR (mS (powL a n)) p (((powL a n).length : Int) - 1) i c := by
  have hle := (rope_of h).le
  rw [mS_len] at hle
  have hw := wholeL_range h
  have hW : wholeL o > 0 := by omega
  have hp := whole_nil h hW
  have hbl : (if n < 0 then a.map turn else a).length = a.length := by split <;> simp
  have hbr : lens (mS (if n < 0 then a.map turn else a)) = some o := by
    split
    · exact lens_turn h
    · exact h
  have hbs : Short (if n < 0 then a.map turn else a) := by
    split
    · exact short_turn hs
    · exact hs
  have hd := div_range hW
  have hm1 : 1 ≤ (if n < 0 then -n else n) := by split <;> omega
  have hm2 : (if n < 0 then -n else n) ≤ 1152921504606846976 / wholeL o := by
    have t1 : ¬ n > 1152921504606846976 / wholeL o := fun hc => hb (.inr ⟨hW, .inl hc⟩)
    have t2 : ¬ n < -(1152921504606846976 / wholeL o) := fun hc => hb (.inr ⟨hW, .inr hc⟩)
    split <;> omega
  have h4 : a.length + 1 ≤ 4000 := by
    have : ¬ a.length + 1 > 4000 := fun hc => hb (.inl hc)
    omega
  unfold powL
  generalize (if n < 0 then a.map turn else a) = b at *
  generalize (if n < 0 then -n else n) = m at *
  by_cases h1 : m = 1
  · rw [if_pos h1]
    refine ⟨o, hbr, by rw [h1, Int.one_mul], hbs, by omega, fun i c i0 i1 hc => ?_⟩
    rw [h1, Int.one_mul] at i1
    rw [Int.tmod_eq_emod_of_nonneg i0, Int.emod_eq_of_lt i0 i1] at hc
    rw [hbl]
    exact hc
  · rw [if_neg h1]
    have hr := pow_rope (rope_of hbr) hbl hp hm1 hm2 h4 (x := powN a m) rfl
    have hlen := (rope_of hbr).len
    rw [mS_len] at hlen
    refine ⟨_, rope_lens hr, ?_, ?_, by rw [List.length_append, List.length_singleton]; omega, fun i c i0 i1 hc => ?_⟩
    · unfold wholeL
      rw [if_neg (by simp)]
      unfold lastL
      rw [List.length_append, List.length_singleton, show ((o.length + 1 : Nat) : Int) - 1 = (o.length : Int) by omega, rd_last]
    · intro x hx
      rcases List.mem_append.1 hx with hx | hx
      · exact hbs x hx
      · rw [List.mem_singleton.1 hx]
        show (((⟨#[]⟩ : ByteArray).size : Nat) : Int) ≤ _
        decide
    · rw [List.length_append, List.length_singleton, hbl, show ((a.length + 1 : Nat) : Int) - 1 = (a.length : Int) by omega]
      exact pow_let (rope_of hbr) hbl hp hm1 rfl hc
theorem big_iff {a : List Nd} {o : List Int} {n : Int} (h : lens (mS a) = some o) (hn : -9223372036854775808 ≤ n ∧ n ≤ 9223372036854775807) {t : Int} (ht : t = if n = -9223372036854775808 then 9223372036854775807 else if n < 0 then -n else n) : tooBig a o n ↔ (wholeL o > 0 ∧ t > 1152921504606846976 / wholeL o) ∨ a.length + 1 > 4000 := by
  unfold tooBig
  by_cases hW : wholeL o > 0
  · have hd := div_range hW
    subst ht
    constructor
    · rintro (hc | ⟨_, hc⟩)
      · exact .inr hc
      · refine .inl ⟨hW, ?_⟩
        split <;> (try split) <;> omega
    · rintro (⟨_, hc⟩ | hc)
      · refine .inr ⟨hW, ?_⟩
        split at hc <;> (try split at hc) <;> omega
      · exact .inl hc
  · constructor
    · rintro (hc | ⟨hc, _⟩)
      · exact .inr hc
      · exact absurd hc hW
    · rintro (⟨hc, _⟩ | hc)
      · exact absurd hc hW
      · exact .inl hc
theorem law_powers {a : List Nd} {n i : Int} (hs : Short a) (hn : -9223372036854775808 ≤ n ∧ n ≤ 9223372036854775807) (hi : -9223372036854775808 ≤ i ∧ i ≤ 9223372036854775807) : Evn (fun k => F3 k (a, n, i, ())) (true, ()) := by
  unfold F3
  simp only []
  cases h : lens (mS a) with
  | none =>
    refine Evn.bind (F10_none h) (Evn.bind (F11_none h) (Evn.bind (F12_none hs h) (Evn.eq fun k => ?_)))
    simp [F13_ev, sumE]
  | some o =>
    have hle := (rope_of h).le
    rw [mS_len] at hle
    have hw := wholeL_range h
    obtain ⟨r, e, h10, hre⟩ : ∃ r e, Evn (fun k => F10 k (a, n, ())) (r, e, ()) ∧ ((tooBig a o n ∧ r = [] ∧ e = 2) ∨ (¬ tooBig a o n ∧ r = (if n = 0 ∨ wholeL o = 0 then [] else powL a n) ∧ e = 0)) := by
      by_cases hb : tooBig a o n
      · exact ⟨_, _, F10_big h hb, .inl ⟨hb, rfl, rfl⟩⟩
      · exact ⟨_, _, F10_ok h hb, .inr ⟨hb, rfl, rfl⟩⟩
    refine Evn.bind h10 (Evn.bind (F11_some h) (Evn.bind (F12_some hs h) ?_))
    simp only [bne_self_eq_false, Bool.false_eq_true, if_false]
    refine Evn.bind (F12_some (short_turn hs) (lens_turn h)) ?_
    refine Evn.bind (a := Sum.inl (false, a.map turn, e, r, n, a, i, wholeL o, ())) (Evn.eq fun k => ?_) ?_
    · simp [F13_ev]
    simp only [sumE, Bool.false_eq_true, if_false]
    refine Evn.bind (a := Sum.inl (e, r, n, a, i, wholeL o, ())) ?_ ?_
    · refine Evn.bind (a := Sum.inl (decide (0 ≤ i ∧ i < wholeL o), a.map turn, e, r, n, a, i, wholeL o, ())) (Evn.eq fun k => ?_) ?_
      · by_cases h0 : i ≥ 0
        · rw [if_pos (decide_eq_true h0)]
          have : decide (i < wholeL o) = decide (0 ≤ i ∧ i < wholeL o) := by
            congr 1
            exact propext ⟨fun h => ⟨h0, h⟩, fun h => h.2⟩
          rw [this]
        · rw [if_neg (fun h => h0 (of_decide_eq_true h))]
          have : decide (0 ≤ i ∧ i < wholeL o) = false := decide_eq_false (by omega)
          rw [this]
      · simp only [sumE]
        by_cases hin : 0 ≤ i ∧ i < wholeL o
        · simp only [decide_eq_true hin, if_true]
          obtain ⟨d, hd, hda⟩ := at_some hs h (i := wholeL o - 1 - i) (by omega) (by omega)
          have hv := mirror_at h hin.1 hin.2 hd
          refine Evn.bind (at_let (short_turn hs) (lens_turn h) hin.1 hin.2 (by rw [List.length_map]; exact hv)) ?_
          simp only [i64w (show -9223372036854775808 ≤ wholeL o - 1 by omega) (show wholeL o - 1 ≤ 9223372036854775807 by omega), i64w (show -9223372036854775808 ≤ wholeL o - 1 - i by omega) (show wholeL o - 1 - i ≤ 9223372036854775807 by omega)]
          refine Evn.bind hda (Evn.eq fun k => ?_)
          simp [F15_ev]
        · simp only [decide_eq_false hin, Bool.false_eq_true, if_false]
          exact Evn.now _
    simp only [sumE]
    refine Evn.bind (a := Sum.inl (e, (if n < 0 then IntKind.i64.wrap (0 - n) else n), r, n, a, i, wholeL o, ())) (Evn.eq fun k => ?_) ?_
    · by_cases hn0 : n < 0
      · rw [if_pos (decide_eq_true hn0), if_pos hn0]
      · rw [if_neg (fun h => hn0 (of_decide_eq_true h)), if_neg hn0]
    simp only [sumE]
    generalize ht : (if n = -9223372036854775808 then (9223372036854775807 : Int) else if n < 0 then -n else n) = t
    have ht1 : 0 ≤ t ∧ t ≤ 9223372036854775807 := by
      rw [← ht]
      split <;> (try split) <;> omega
    refine Evn.bind (a := Sum.inl (e, t, r, n, a, i, wholeL o, ())) (Evn.eq fun k => ?_) ?_
    · by_cases hm : n = -9223372036854775808
      · rw [if_pos (by simp [hm])]
        rw [if_pos hm] at ht
        rw [← ht]
      · rw [if_neg (by simpa using hm)]
        rw [if_neg hm] at ht
        rw [← ht]
        split
        · rw [i64w (by omega) (by omega), Int.zero_sub]
        · rfl
    simp only [sumE]
    have hbig := big_iff h hn ht.symm
    refine Evn.bind (a := Sum.inl (decide (tooBig a o n), e, t, r, n, a, i, wholeL o, ())) (Evn.eq fun k => ?_) ?_
    · simp only [i64w (show -9223372036854775808 ≤ (a.length : Int) + 1 by omega) (show (a.length : Int) + 1 ≤ 9223372036854775807 by omega)]
      by_cases hW : wholeL o > 0
      · have hd := div_range hW
        have t1 : Int.tdiv 1152921504606846976 (wholeL o) = 1152921504606846976 / wholeL o := Int.tdiv_eq_ediv_of_nonneg (by omega)
        rw [if_pos (decide_eq_true hW)]
        simp only [if_neg (show ¬ wholeL o = 0 by omega), Option.bind_some, t1, i64w (show -9223372036854775808 ≤ 1152921504606846976 / wholeL o by omega) (show 1152921504606846976 / wholeL o ≤ 9223372036854775807 by omega)]
        by_cases hc : t > 1152921504606846976 / wholeL o
        · rw [if_pos (decide_eq_true hc), decide_eq_true (hbig.2 (.inl ⟨hW, hc⟩))]
        · rw [if_neg (fun h => hc (of_decide_eq_true h))]
          have : decide ((a.length : Int) + 1 > 4000) = decide (tooBig a o n) := by
            congr 1
            refine propext ⟨fun h => hbig.2 (.inr (by omega)), fun h => ?_⟩
            rcases hbig.1 h with ⟨_, h⟩ | h
            · exact absurd h hc
            · omega
          rw [this]
      · rw [if_neg (fun h => hW (of_decide_eq_true h))]
        have : decide ((a.length : Int) + 1 > 4000) = decide (tooBig a o n) := by
          congr 1
          refine propext ⟨fun h => hbig.2 (.inr (by omega)), fun h => ?_⟩
          rcases hbig.1 h with ⟨h, _⟩ | h
          · exact absurd h hW
          · omega
        rw [this]
    simp only [sumE]
    rcases hre with ⟨hb, rfl, rfl⟩ | ⟨hb, hr, rfl⟩
    · refine Evn.eq fun k => ?_
      simp [hb, sumE]
    · simp only [decide_eq_false hb, Bool.false_eq_true, if_false]
      have hnb : ¬ ((wholeL o > 0 ∧ t > 1152921504606846976 / wholeL o) ∨ a.length + 1 > 4000) := fun hc => hb (hbig.2 hc)
      by_cases hz : n = 0 ∨ wholeL o = 0
      · rw [if_pos hz] at hr
        subst hr
        have hl0 : lens (mS []) = some [] := rfl
        have hs0 : Short [] := fun x hx => by cases hx
        refine Evn.bind (F12_some hs0 hl0) ?_
        have hw0 : wholeL ([] : List Int) = 0 := rfl
        rw [hw0]
        have htz : t * wholeL o = 0 := by
          rcases hz with hz | hz
          · have : t = 0 := by rw [← ht, hz]; rfl
            rw [this, Int.zero_mul]
          · rw [hz, Int.mul_zero]
        refine Evn.bind (a := Sum.inl (0, [], n, a, i, wholeL o, ())) (Evn.eq fun k => ?_) ?_
        · rw [htz]
          have w0 : IntKind.i64.wrap 0 = 0 := rfl
          simp [w0, i64w (show -9223372036854775808 ≤ (a.length : Int) + 1 by omega) (show (a.length : Int) + 1 ≤ 9223372036854775807 by omega)]
          omega
        · simp only [sumE]
          refine Evn.bind (a := Sum.inl (true, [], n, a, i, wholeL o, ())) (Evn.eq fun k => ?_) (Evn.eq fun k => rfl)
          by_cases hi0 : i < 0
          · rw [if_pos (decide_eq_true hi0)]
          · rw [if_neg (fun h => hi0 (of_decide_eq_true h)), decide_eq_true (show i ≥ 0 by omega)]
      · rw [if_neg hz] at hr
        have h0 : ¬ n = 0 := fun h => hz (.inl h)
        have hW : wholeL o > 0 := by omega
        have hd := div_range hW
        obtain ⟨p, hp1, hp2, hp3, hp4, hp5⟩ := pow_ok hs h hb hz
        rw [← hr] at hp1 hp3 hp4 hp5
        have htm : t = if n < 0 then -n else n := by
          rw [← ht, if_neg]
          rintro rfl
          refine hnb (.inl ⟨hW, ?_⟩)
          rw [← ht, if_pos rfl]
          omega
        rw [← htm] at hp2 hp5
        have hpr := wholeL_range hp1
        refine Evn.bind (F12_some hp3 hp1) ?_
        refine Evn.bind (a := Sum.inl (wholeL p, r, n, a, i, wholeL o, ())) (Evn.eq fun k => ?_) ?_
        · rw [← hp2]
          have h0' : (n == (0 : Int)) = false := by simpa using h0
          have c4 : ¬ (r.length : Int) > (a.length : Int) + 1 := by omega
          simp only [bne_self_eq_false, Bool.false_eq_true, if_false, i64w (show -9223372036854775808 ≤ wholeL p by omega) (show wholeL p ≤ 9223372036854775807 by omega), i64w (show -9223372036854775808 ≤ (a.length : Int) + 1 by omega) (show (a.length : Int) + 1 ≤ 9223372036854775807 by omega), decide_eq_false c4, h0']
        · simp only [sumE]
          by_cases hin : 0 ≤ i ∧ i < wholeL p
          · refine Evn.bind (a := Sum.inl (false, r, n, a, i, wholeL o, ())) (Evn.eq fun k => ?_) ?_
            · rw [if_neg (fun h => absurd (of_decide_eq_true h) (by omega)), decide_eq_false (show ¬ i ≥ wholeL p by omega)]
            · simp only [sumE, Bool.false_eq_true, if_false]
              have hmod0 : 0 ≤ Int.tmod i (wholeL o) := Int.tmod_nonneg _ hin.1
              have hmod1 : Int.tmod i (wholeL o) < wholeL o := Int.tmod_lt_of_pos _ hW
              have hnz : ¬ wholeL o = 0 := by omega
              by_cases hneg : n < 0
              · obtain ⟨d, hd1, hd2⟩ := at_some hs h (i := wholeL o - 1 - Int.tmod i (wholeL o)) (by omega) (by omega)
                obtain ⟨d', _, hd3⟩ := at_some hs h (i := Int.tmod i (wholeL o)) hmod0 hmod1
                have hm := mirror_at h hmod0 hmod1 hd1
                have hl := hp5 i _ hin.1 (by rw [← hp2]; exact hin.2) (by rw [if_pos hneg]; exact hm)
                refine Evn.bind (at_let hp3 hp1 hin.1 hin.2 hl) ?_
                simp only [if_neg hnz, Option.bind_some]
                refine Evn.bind hd3 ?_
                simp only [decide_eq_true hneg, if_true, i64w (show -9223372036854775808 ≤ wholeL o - 1 by omega) (show wholeL o - 1 ≤ 9223372036854775807 by omega), i64w (show -9223372036854775808 ≤ wholeL o - 1 - Int.tmod i (wholeL o) by omega) (show wholeL o - 1 - Int.tmod i (wholeL o) ≤ 9223372036854775807 by omega)]
                refine Evn.bind hd2 (Evn.eq fun k => ?_)
                simp [F15_ev]
              · obtain ⟨d, hd1, hd2⟩ := at_some hs h (i := Int.tmod i (wholeL o)) hmod0 hmod1
                have hl := hp5 i _ hin.1 (by rw [← hp2]; exact hin.2) (by rw [if_neg hneg]; exact hd1)
                refine Evn.bind (at_let hp3 hp1 hin.1 hin.2 hl) ?_
                simp only [if_neg hnz, Option.bind_some]
                refine Evn.bind hd2 (Evn.eq fun k => ?_)
                simp [hneg]
          · refine Evn.bind (a := Sum.inl (true, r, n, a, i, wholeL o, ())) (Evn.eq fun k => ?_) (Evn.eq fun k => rfl)
            by_cases hi0 : i < 0
            · rw [if_pos (decide_eq_true hi0)]
            · rw [if_neg (fun h => hi0 (of_decide_eq_true h)), decide_eq_true (show i ≥ wholeL p by omega)]
end Go.Proofs.YtehbekgmemebjaaDoorEv
namespace Go.Proofs.YtehbekgmemebjaaDoor.PAll
open Go Go.RowKit
theorem glob_cells {w : World} {fuel : Nat} {cs : Array Value} {p : List MemPlace} (hd : DataW.trod (fun _ => ()) Tryd.prog w 0 (fun _ => true) false fuel 106 cs.toList = some (Rows.laid_cayley_word_letters, p)) :
    cs = #[.int .u8 97, .int .u8 65, .int .u8 98, .int .u8 66, .int .u8 99, .int .u8 67, .int .u8 100, .int .u8 68, .int .u8 101, .int .u8 69, .int .u8 102, .int .u8 70, .int .u8 103, .int .u8 71, .int .u8 104, .int .u8 72] := by
  obtain ⟨xs, m, e, hx, hl, hn, hel⟩ := DataW.trod_array Tryd.underlying106 hd
  have c5 : Tryd.prog.cellsOf 5 = 1 := by kernel_rfl
  have c106 : Tryd.prog.cellsOf 106 = 16 := by kernel_rfl
  rw [c106] at hl
  simp only [Prod.mk.injEq, Rows.laid_cayley_word_letters, DataW.agg.injEq] at hx
  have hlx : xs.length = 16 := hn
  apply Array.toList_inj.1
  apply List.ext_getElem?
  intro i
  by_cases hi : i < 16
  · have h1 := hel i hi
    rw [c5] at h1
    have hx1 : xs[i]? = some (xs[i]'(by omega)) := List.getElem?_eq_getElem (by omega)
    rw [hx1] at h1
    obtain ⟨k, e1, e2, _⟩ := DataW.trod_int Tryd.underlying5 h1
    have e3 : cs.toList[i]? = some (.int .u8 k) := by
      have := congrArg (fun l => l[0]?) e1
      simpa [List.getElem?_take, List.getElem?_drop] using this
    rw [e3]
    have e4 : (xs.map (·.1))[i]? = some (.lit (.int .u8 k)) := by rw [List.getElem?_map, hx1, e2]; rfl
    rw [← hx.1] at e4
    have h16 : i = 0 ∨ i = 1 ∨ i = 2 ∨ i = 3 ∨ i = 4 ∨ i = 5 ∨ i = 6 ∨ i = 7 ∨ i = 8 ∨ i = 9 ∨ i = 10 ∨ i = 11 ∨ i = 12 ∨ i = 13 ∨ i = 14 ∨ i = 15 := by omega
    rcases h16 with rfl | rfl | rfl | rfl | rfl | rfl | rfl | rfl | rfl | rfl | rfl | rfl | rfl | rfl | rfl | rfl <;>
    · have e5 := DataW.lit.inj (Option.some.inj e4)
      cases e5
      rfl
  · rw [List.getElem?_eq_none (by omega), List.getElem?_eq_none (by simp; omega)]
end Go.Proofs.YtehbekgmemebjaaDoor.PAll
