import Derived.Test.YtehbekgmemebjaaDoorPAllx0
import Derived.Test.YtehbekgmemebjaaDoorPAllx10
import Derived.Test.YtehbekgmemebjaaDoorPureB
namespace Go.Proofs.YtehbekgmemebjaaDoor.PAll
open Go Go.RowKit Go.Proofs.YtehbekgmemebjaaDoorEv Go.Proofs.YtehbekgmemebjaaDoorW.PrintWords Go.Proofs.YtehbekgmemebjaaDoorW.PrintLast Go.Proofs.YtehbekgmemebjaaDoorW.PrintMore H
set_option linter.unusedVariables false
set_option linter.unusedSimpArgs false
namespace H
def Short (l : List S55) : Prop := ∀ x ∈ l, x.f0.size ≤ 9223372036854775807
theorem lengths_of {l : List S55} (h : Short l) : cayleyref02_Lengths.f l = match lens l with
  | some out => some (out, true)
  | none => some ([], false) := by
  unfold cayleyref02_Lengths.f
  rw [if_pos (by rw [List.all_eq_true]; intro x hx; exact decide_eq_true (h x hx))]
  cases lens l <;> rfl
def wholeL (o : List Int) : Int := if o.length = 0 then 0 else lastL o
theorem len_some {l : List S55} {o : List Int} (h : Short l) (hl : lens l = some o) : cayleyref02_Len.f l = some (wholeL o, 0) := by
  have hr := rope_of hl
  have hlen := hr.len
  have hle := hr.le
  unfold cayleyref02_Len.f
  rw [lengths_of h, hl]
  simp only [Option.bind_some, if_true]
  unfold wholeL
  by_cases h0 : o.length = 0
  · rw [if_pos (by omega), if_pos h0]
  · have hw : wrap64 ((o.length : Int) - 1) = (o.length : Int) - 1 := w64 (by omega) (by omega)
    rw [if_neg (by omega), if_neg h0, hw, if_pos (by omega), if_pos (by omega)]
    rfl
theorem len_none {l : List S55} (h : Short l) (hl : lens l = none) : cayleyref02_Len.f l = some (0, 20) := by
  unfold cayleyref02_Len.f
  rw [lengths_of h, hl]
  rfl
theorem wholeL_range {l : List S55} {o : List Int} (hl : lens l = some o) : 0 ≤ wholeL o ∧ wholeL o ≤ 1152921504606846976 := by
  have hr := rope_of hl
  unfold wholeL
  split
  · omega
  · have := hr.good.rd (i := (o.length : Int) - 1) (by omega) (by omega)
    unfold lastL; omega
theorem at_out {l : List S55} {o : List Int} {i : Int} (h : Short l) (hl : lens l = some o) (hi : i < 0 ∨ wholeL o ≤ i) : Go.Proofs.YtehbekgmemebjaaDoorW.PrintWords.Ev (fun k => cayleyref02_At.f k l i) (0, 1) := by
  refine Ev.step (f := fun _ => some (0, 1)) (fun k => ?_) (Ev.now _)
  unfold cayleyref02_At.f
  rw [len_some h hl]
  simp only [Option.bind_some, if_true]
  by_cases h0 : i < 0
  · rw [if_pos h0]
    simp only [cayleyref02_At.j0, if_true]
  · rw [if_neg h0, decide_eq_true (by omega)]
    simp only [cayleyref02_At.j0, if_true]
theorem at_in {l : List S55} {o : List Int} {i c : Int} (h : Short l) (hl : lens l = some o) (h0 : 0 ≤ i) (h1 : i < wholeL o) (hc : LetR l o ((l.length : Int) - 1) i c) : Go.Proofs.YtehbekgmemebjaaDoorW.PrintWords.Ev (fun k => cayleyref02_At.f k l i) (c, 0) := by
  have hle := (rope_of hl).le
  have hb := hc.bound
  refine Ev.step (f := fun k => (cayleyref02_letter.f k l o ((l.length : Int) - 1) i).bind fun t => some (t, 0)) (fun k => ?_) (Ev.bind hc.ev (Ev.now _))
  unfold cayleyref02_At.f
  rw [len_some h hl]
  simp only [Option.bind_some, if_true]
  rw [if_neg (by omega), decide_eq_false (by omega)]
  simp only [cayleyref02_At.j0, Bool.false_eq_true, if_false]
  rw [lengths_of h, hl]
  simp only [Option.bind_some]
  rw [w64 (by omega) (by omega)]
theorem whole_pos {l : List S55} {o : List Int} (hl : lens l = some o) {i : Int} (h0 : 0 ≤ i) (h1 : i < wholeL o) : 0 < l.length ∧ i < rd o ((l.length : Int) - 1) := by
  have hr := rope_of hl
  have := hr.len
  unfold wholeL at h1
  split at h1
  · omega
  · unfold lastL at h1
    rw [this] at h1
    exact ⟨by omega, h1⟩
theorem letter_in {l : List S55} {o : List Int} (hl : lens l = some o) {i : Int} (h0 : 0 ≤ i) (h1 : i < wholeL o) : ∃ c, LetR l o ((l.length : Int) - 1) i c := by
  obtain ⟨hp, hi⟩ := whole_pos hl h0 h1
  have e : ((l.length - 1 : Nat) : Int) = (l.length : Int) - 1 := by omega
  have := LetR.exists (rope_of hl) _ (l.length - 1) (Nat.le_refl _) (by omega) i h0 (by rw [e]; exact hi)
  rw [e] at this
  exact this
theorem whole_some {o : List Int} (h : o.length ≤ 4000) : rope_whole.f o = some (wholeL o) := by
  unfold rope_whole.f wholeL
  by_cases h0 : o.length = 0
  · rw [if_pos (by omega), if_pos h0]
  · have hw : wrap64 ((o.length : Int) - 1) = (o.length : Int) - 1 := w64 (by omega) (by omega)
    rw [if_neg (by omega), if_neg h0, hw, if_pos (by omega), if_pos (by omega)]
    rfl
theorem measured_some {l : List S55} {o : List Int} (h : lens l = some o) : rope_measured.f l = some (o, 0) := by
  unfold rope_measured.f; rw [h]
theorem measured_none {l : List S55} (h : lens l = none) : rope_measured.f l = some ([], 20) := by
  unfold rope_measured.f; rw [h]
theorem copied_some {l : List S55} (h : l.length ≤ 4000) : rope_copied.f l = some l := by
  unfold rope_copied.f
  simp only [Option.bind_some, List.length_nil, Nat.zero_add, List.nil_append]
  rw [if_pos (by omega)]
theorem concat_bad {a b : List S55} (h : lens a = none ∨ lens b = none) : Go.Proofs.YtehbekgmemebjaaDoorW.PrintWords.Ev (fun k => rope_Concat.f k a b) ([], 20) := by
  refine Ev.step (f := fun _ => some ([], 20)) (fun k => ?_) (Ev.now _)
  unfold rope_Concat.f
  cases ha : lens a with
  | none =>
    rw [measured_none ha]
    cases hb : lens b with
    | none => rw [measured_none hb]; simp [rope_Concat.j0]
    | some ob => rw [measured_some hb]; simp [rope_Concat.j0]
  | some oa =>
    rw [measured_some ha]
    cases hb : lens b with
    | none => rw [measured_none hb]; simp [rope_Concat.j0]
    | some ob => rw [ha, hb] at h; simp at h
def concS (a b : List S55) (oa ob : List Int) : List S55 × Int :=
  if wholeL oa + wholeL ob > 1152921504606846976 ∨ a.length + b.length + 1 > 4000 then ([], 2)
  else if a.length = 0 then (b, 0) else if b.length = 0 then (a, 0) else (catL a b, 0)
theorem concat_j1 {a b : List S55} {oa ob : List Int} (ha : lens a = some oa) (hb : lens b = some ob) (hs : ¬ a.length + b.length + 1 > 4000) : Go.Proofs.YtehbekgmemebjaaDoorW.PrintWords.Ev (fun k => rope_Concat.j1 k a b false) (if a.length = 0 then (b, 0) else if b.length = 0 then (a, 0) else (catL a b, 0)) := by
  have la := (rope_of ha).le
  have lb := (rope_of hb).le
  by_cases h1 : a.length = 0
  · rw [if_pos h1]
    refine Ev.step (f := fun _ => some (b, 0)) (fun k => ?_) (Ev.now _)
    simp only [rope_Concat.j1, Bool.false_eq_true, if_false]
    rw [if_pos (by omega), copied_some lb]; rfl
  · rw [if_neg h1]
    by_cases h2 : b.length = 0
    · rw [if_pos h2]
      refine Ev.step (f := fun _ => some (a, 0)) (fun k => ?_) (Ev.now _)
      simp only [rope_Concat.j1, Bool.false_eq_true, if_false]
      rw [if_neg (by omega), if_pos (by omega), copied_some la]; rfl
    · rw [if_neg h2]
      have hbeh : Go.Proofs.YtehbekgmemebjaaDoorW.PrintWords.Ev (fun k => rope_behind.f k a b) (a ++ b.map (shiftN a.length)) := by
        refine Ev.congr (f := fun k => rope_behind.l0 k a a b (b.length : Int) (([] : List S55).length : Int)) (fun k => ?_) (behind_l0 a b lb la b [] a rfl (by simp))
        unfold rope_behind.f
        rw [copied_some la]; rfl
      refine Ev.step (f := fun k => (rope_behind.f k a b).bind fun t278 => if t278.length < 3518437208883 then (some ((t278 ++ [(⟨(⟨#[]⟩ : ByteArray), wrap64 ((a.length : Int) - 1), wrap64 ((wrap64 ((a.length : Int) + (b.length : Int))) - 1), 0⟩ : S55)]), 0)) else none) (fun k => ?_) (Ev.bind hbeh ?_)
      · simp only [rope_Concat.j1, Bool.false_eq_true, if_false]
        rw [if_neg (by omega), if_neg (by omega)]
      · refine Ev.congr (f := fun _ => some (catL a b, 0)) (fun k => ?_) (Ev.now _)
        have e1 : wrap64 ((a.length : Int) - 1) = (a.length : Int) - 1 := w64 (by omega) (by omega)
        have e2 : wrap64 ((a.length : Int) + (b.length : Int)) = (a.length : Int) + (b.length : Int) := w64 (by omega) (by omega)
        have e3 : wrap64 ((a.length : Int) + (b.length : Int) - 1) = (a.length : Int) + (b.length : Int) - 1 := w64 (by omega) (by omega)
        rw [if_pos (by simp; omega), e1, e2, e3]
        rfl
theorem concat_ok {a b : List S55} {oa ob : List Int} (ha : lens a = some oa) (hb : lens b = some ob) : Go.Proofs.YtehbekgmemebjaaDoorW.PrintWords.Ev (fun k => rope_Concat.f k a b) (concS a b oa ob) := by
  have ra := rope_of ha
  have rb := rope_of hb
  have wa := wholeL_range ha
  have wb := wholeL_range hb
  have la := ra.le
  have lb := rb.le
  have e1 : wrap64 (wholeL oa + wholeL ob) = wholeL oa + wholeL ob := w64 (by omega) (by omega)
  have e2 : wrap64 ((a.length : Int) + (b.length : Int)) = (a.length : Int) + (b.length : Int) := w64 (by omega) (by omega)
  have e3 : wrap64 ((a.length : Int) + (b.length : Int) + 1) = (a.length : Int) + (b.length : Int) + 1 := w64 (by omega) (by omega)
  have bad : Go.Proofs.YtehbekgmemebjaaDoorW.PrintWords.Ev (fun k => rope_Concat.j1 k a b true) ([], 2) := by
    refine Ev.step (f := fun _ => some ([], 2)) (fun k => ?_) (Ev.now _)
    simp only [rope_Concat.j1, if_true]
  unfold concS
  by_cases h1 : wholeL oa + wholeL ob > 1152921504606846976
  · rw [if_pos (.inl h1)]
    refine Ev.step (f := fun k => rope_Concat.j1 k a b true) (fun k => ?_) bad
    unfold rope_Concat.f
    rw [measured_some ha, measured_some hb]
    simp only [Option.bind_some, if_true, rope_Concat.j0, bne_self_eq_false, Bool.false_eq_true, if_false]
    rw [whole_some (by have := ra.len; omega), whole_some (by have := rb.len; omega)]
    simp only [Option.bind_some]
    rw [e1, if_pos h1]
  · by_cases h2 : a.length + b.length + 1 > 4000
    · rw [if_pos (.inr h2)]
      refine Ev.step (f := fun k => rope_Concat.j1 k a b true) (fun k => ?_) bad
      unfold rope_Concat.f
      rw [measured_some ha, measured_some hb]
      simp only [Option.bind_some, if_true, rope_Concat.j0, bne_self_eq_false, Bool.false_eq_true, if_false]
      rw [whole_some (by have := ra.len; omega), whole_some (by have := rb.len; omega)]
      simp only [Option.bind_some]
      rw [e1, if_neg h1, e2, e3, decide_eq_true (by omega)]
    · rw [if_neg (by omega)]
      refine Ev.step (f := fun k => rope_Concat.j1 k a b false) (fun k => ?_) (concat_j1 ha hb h2)
      unfold rope_Concat.f
      rw [measured_some ha, measured_some hb]
      simp only [Option.bind_some, if_true, rope_Concat.j0, bne_self_eq_false, Bool.false_eq_true, if_false]
      rw [whole_some (by have := ra.len; omega), whole_some (by have := rb.len; omega)]
      simp only [Option.bind_some]
      rw [e1, if_neg h1, e2, e3, decide_eq_false (by omega)]
theorem short_shift {b : List S55} (n : Nat) (h : Short b) : Short (b.map (shiftN n)) := by
  intro x hx
  obtain ⟨y, hy, rfl⟩ := List.mem_map.1 hx
  rw [shiftN_f0]; exact h y hy
theorem short_cat {a b : List S55} (sa : Short a) (sb : Short b) : Short (catL a b) := by
  intro x hx
  unfold catL at hx
  rcases List.mem_append.1 hx with hx | hx
  · rcases List.mem_append.1 hx with hx | hx
    · exact sa x hx
    · exact short_shift _ sb x hx
  · rw [List.mem_singleton.1 hx]; exact Nat.zero_le _
theorem conc_rope {a b : List S55} {oa ob : List Int} (sa : Short a) (sb : Short b) (ha : lens a = some oa) (hb : lens b = some ob) (hbad : ¬ (wholeL oa + wholeL ob > 1152921504606846976 ∨ a.length + b.length + 1 > 4000)) :
    ∃ r p, concS a b oa ob = (r, 0) ∧ Short r ∧ lens r = some p ∧ wholeL p = wholeL oa + wholeL ob ∧ r.length ≤ a.length + b.length + 1 ∧
      ∀ i : Int, 0 ≤ i → i < wholeL oa + wholeL ob → ∃ c, LetR r p ((r.length : Int) - 1) i c ∧ (i < wholeL oa → LetR a oa ((a.length : Int) - 1) i c) ∧ (wholeL oa ≤ i → LetR b ob ((b.length : Int) - 1) (i - wholeL oa) c) := by
  have ra := rope_of ha
  have rb := rope_of hb
  have wa := wholeL_range ha
  have wb := wholeL_range hb
  have la := ra.le
  have lb := rb.le
  have na := ra.len
  have nb := rb.len
  unfold concS
  rw [if_neg hbad]
  by_cases h1 : a.length = 0
  · have hz : wholeL oa = 0 := by unfold wholeL; rw [if_pos (by omega)]
    rw [if_pos h1, hz, Int.zero_add]
    refine ⟨b, ob, rfl, sb, hb, rfl, by omega, fun i i0 i1 => ?_⟩
    obtain ⟨c, hc⟩ := letter_in hb i0 i1
    exact ⟨c, hc, fun h => by omega, fun _ => by rw [Int.sub_zero]; exact hc⟩
  · rw [if_neg h1]
    by_cases h2 : b.length = 0
    · have hz : wholeL ob = 0 := by unfold wholeL; rw [if_pos (by omega)]
      rw [if_pos h2, hz, Int.add_zero]
      refine ⟨a, oa, rfl, sa, ha, rfl, by omega, fun i i0 i1 => ?_⟩
      obtain ⟨c, hc⟩ := letter_in ha i0 i1
      exact ⟨c, hc, fun _ => hc, fun h => by omega⟩
    · rw [if_neg h2]
      have w1 : wholeL oa = lastL oa := by unfold wholeL; rw [if_neg (by omega)]
      have w2 : wholeL ob = lastL ob := by unfold wholeL; rw [if_neg (by omega)]
      have hr := cat_rope ra rb (by omega) (by omega) (by omega) (by rw [← w1, ← w2]; omega)
      have hlen : (catL a b).length = a.length + b.length + 1 := by unfold catL; simp; omega
      refine ⟨catL a b, _, rfl, short_cat sa sb, rope_lens hr, ?_, by omega, fun i i0 i1 => ?_⟩
      · unfold wholeL
        rw [if_neg (by simp), if_neg (by omega), if_neg (by omega)]
        show rd _ _ = _
        have := rd_app_right (a := oa ++ ob) (b := [lastL oa + lastL ob]) (i := 0) (by omega)
        rw [Int.zero_add] at this
        simp only [List.length_append, List.length_singleton] at this ⊢
        rw [show ((oa.length + ob.length + 1 : Nat) : Int) - 1 = ((oa.length + ob.length : Nat) : Int) by omega, this]
        rfl
      · have hx : (catL a b)[a.length + b.length]? = some ⟨⟨#[]⟩, (a.length : Int) - 1, (a.length : Int) + (b.length : Int) - 1, 0⟩ := by
          unfold catL
          rw [List.getElem?_append_right (by simp)]
          simp
        have hrd := rdT_at hx
        have eidx : ((catL a b).length : Int) - 1 = ((a.length + b.length : Nat) : Int) := by rw [hlen]; omega
        have hz : (⟨#[]⟩ : ByteArray).toList = [] := (toList_size _).2 rfl
        have r1 : rd (oa ++ ob ++ [lastL oa + lastL ob]) ((a.length : Int) - 1) = wholeL oa := by
          rw [List.append_assoc, rd_app_left (by omega) (by omega), w1, lastL, na]
        rw [eidx]
        by_cases hlt : i < wholeL oa
        · obtain ⟨c, hc⟩ := letter_in ha i0 hlt
          refine ⟨c, .left _ _ _ (by omega) (by omega) (by rw [hrd]; exact hz) (by rw [hrd]; exact Int.lt_irrefl 0) (by rw [hrd]; show 0 ≤ (a.length : Int) - 1; omega) (by rw [hrd]; show (a.length : Int) - 1 < _; simp; omega) (by rw [hrd]; show i < rd _ ((a.length : Int) - 1); rw [r1]; exact hlt) ?_, fun _ => hc, fun h => by omega⟩
          rw [hrd]
          show LetR (catL a b) _ ((a.length : Int) - 1) i c
          unfold catL
          rw [List.append_assoc, List.append_assoc]
          exact hc.app na
        · obtain ⟨c, hc⟩ := letter_in hb (i := i - wholeL oa) (by omega) (by omega)
          refine ⟨c, .right _ _ _ (by omega) (by omega) (by rw [hrd]; exact hz) (by rw [hrd]; exact Int.lt_irrefl 0) (by rw [hrd]; show 0 ≤ (a.length : Int) - 1; omega) (by rw [hrd]; show (a.length : Int) - 1 < _; simp; omega) (by rw [hrd]; show ¬ i < rd _ ((a.length : Int) - 1); rw [r1]; exact hlt) ?_, fun h => absurd h hlt, fun _ => hc⟩
          rw [hrd]
          show LetR (catL a b) _ ((a.length : Int) + (b.length : Int) - 1) (wrap64 (i - rd _ ((a.length : Int) - 1))) c
          rw [r1, w64 (by omega) (by omega), show (a.length : Int) + (b.length : Int) - 1 = ((b.length : Int) - 1) + (a.length : Nat) by omega]
          refine hc.shift (by omega) rb (fun n n0 n1 => ?_) (fun n n0 n1 => ?_)
          · refine ⟨by rw [hlen]; omega, ?_⟩
            unfold catL rd_T55
            rw [List.getD_eq_getElem?_getD, List.getD_eq_getElem?_getD, List.append_assoc, List.getElem?_append_right (by omega), List.getElem?_append_left (by simp; omega), List.getElem?_map]
            have e : (n + (a.length : Int)).toNat - a.length = n.toNat := by omega
            rw [e, List.getElem?_eq_getElem (by omega)]
            rfl
          · refine ⟨by simp; omega, ?_⟩
            rw [List.append_assoc, ← na, rd_app_right n0, rd_app_left n0 (by omega)]
abbrev PEv {α : Type} (g : Nat → Option α) (r : α) : Prop := Go.Proofs.YtehbekgmemebjaaDoorW.PrintWords.Ev g r
theorem law_concats {a b : List S55} (sa : Short a) (sb : Short b) (i : Int) : PEv (fun k => cayleylaw02_RopeConcats.f k a b i) true := by
  cases ha : lens a with
  | none =>
    refine Ev.bind (concat_bad (.inl ha)) ?_
    refine Ev.step (f := fun _ => some true) (fun k => ?_) (Ev.now _)
    rw [len_none sa ha]
    cases hb : lens b with
    | none => rw [len_none sb hb]; simp [cayleylaw02_RopeConcats.j0, cayleylaw02_sane.f]
    | some ob => rw [len_some sb hb]; simp [cayleylaw02_RopeConcats.j0, cayleylaw02_sane.f]
  | some oa =>
    cases hb : lens b with
    | none =>
      refine Ev.bind (concat_bad (.inr hb)) ?_
      refine Ev.step (f := fun _ => some true) (fun k => ?_) (Ev.now _)
      rw [len_some sa ha, len_none sb hb]
      simp [cayleylaw02_RopeConcats.j0, cayleylaw02_sane.f]
    | some ob =>
      have ra := rope_of ha
      have rb := rope_of hb
      have wa := wholeL_range ha
      have wb := wholeL_range hb
      have la := ra.le
      have lb := rb.le
      refine Ev.bind (concat_ok ha hb) ?_
      rw [len_some sa ha, len_some sb hb]
      have e0 : wrap64 (1152921504606846976 - wholeL ob) = 1152921504606846976 - wholeL ob := w64 (by omega) (by omega)
      have e2 : wrap64 ((a.length : Int) + (b.length : Int)) = (a.length : Int) + (b.length : Int) := w64 (by omega) (by omega)
      have e3 : wrap64 ((a.length : Int) + (b.length : Int) + 1) = (a.length : Int) + (b.length : Int) + 1 := w64 (by omega) (by omega)
      have e4 : wrap64 (wholeL oa + wholeL ob) = wholeL oa + wholeL ob := w64 (by omega) (by omega)
      by_cases hbad : wholeL oa + wholeL ob > 1152921504606846976 ∨ a.length + b.length + 1 > 4000
      · have hc : concS a b oa ob = ([], 2) := by unfold concS; rw [if_pos hbad]
        rw [hc]
        refine Ev.step (f := fun k => cayleylaw02_RopeConcats.j1 k a b i [] 2 (wholeL oa) (wholeL ob) true) (fun k => ?_) ?_
        · simp only [Option.bind_some, if_true, bne_self_eq_false, cayleylaw02_RopeConcats.j0, Bool.false_eq_true, if_false]
          rw [e0, e2, e3]
          by_cases h1 : wholeL oa > 1152921504606846976 - wholeL ob
          · rw [if_pos h1]
          · rw [if_neg h1, decide_eq_true (by omega)]
        · refine Ev.step (f := fun _ => some true) (fun k => ?_) (Ev.now _)
          simp [cayleylaw02_RopeConcats.j1, cayleylaw02_sane.f]
      · obtain ⟨r, p, hcS, sr, hr, wr, lr, hlet⟩ := conc_rope sa sb ha hb hbad
        have ltr := (rope_of hr).le
        rw [hcS]
        refine Ev.step (f := fun k => cayleylaw02_RopeConcats.j1 k a b i r 0 (wholeL oa) (wholeL ob) false) (fun k => ?_) ?_
        · simp only [Option.bind_some, if_true, bne_self_eq_false, cayleylaw02_RopeConcats.j0, Bool.false_eq_true, if_false]
          rw [e0, e2, e3, if_neg (by omega), decide_eq_false (by omega)]
        · refine Ev.step (f := fun k => cayleylaw02_RopeConcats.j2 k a b i r (wholeL oa) (wholeL p) false) (fun k => ?_) ?_
          · simp only [cayleylaw02_RopeConcats.j1, Bool.false_eq_true, if_false]
            rw [len_some sr hr]
            simp only [cayleylaw02_sane.f, Option.bind_some, if_true]
            rw [e4, if_pos wr, e2, e3, decide_eq_false (by omega)]
          · by_cases hout : i < 0 ∨ wholeL p ≤ i
            · refine Ev.step (f := fun k => cayleylaw02_RopeConcats.j3 k a b i r (wholeL oa) true) (fun k => ?_) ?_
              · simp only [cayleylaw02_RopeConcats.j2, Bool.false_eq_true, if_false]
                by_cases h0 : i < 0
                · rw [if_pos h0]
                · rw [if_neg h0, decide_eq_true (by omega)]
              · refine Ev.step (f := fun _ => some true) (fun k => ?_) (Ev.now _)
                simp only [cayleylaw02_RopeConcats.j3, if_true]
            · obtain ⟨c, hc, hl, hrt⟩ := hlet i (by omega) (by omega)
              have hat := at_in sr hr (by omega) (by omega) hc
              refine Ev.step (f := fun k => cayleylaw02_RopeConcats.j3 k a b i r (wholeL oa) false) (fun k => ?_) ?_
              · simp only [cayleylaw02_RopeConcats.j2, Bool.false_eq_true, if_false]
                rw [if_neg (by omega), decide_eq_false (by omega)]
              · by_cases hlt : i < wholeL oa
                · refine Ev.step (f := fun k => (cayleyref02_At.f k r i).bind fun bt297 => ((cayleyref02_At.f k a i).bind fun bt299 => (some (bt297.1 == bt299.1)))) (fun k => ?_) (Ev.bind hat (Ev.bind (at_in sa ha (by omega) hlt (hl hlt)) ?_))
                  · simp only [cayleylaw02_RopeConcats.j3, Bool.false_eq_true, if_false]
                    simp only [if_neg (show ¬ i ≥ wholeL oa by omega)]
                  · refine Ev.congr (f := fun _ => some true) (fun k => ?_) (Ev.now _)
                    simp
                · have ew : wrap64 (i - wholeL oa) = i - wholeL oa := w64 (by omega) (by omega)
                  refine Ev.step (f := fun k => (cayleyref02_At.f k r i).bind fun bt297 => ((cayleyref02_At.f k a i).bind fun bt299 => ((cayleyref02_At.f k b (i - wholeL oa)).bind fun bt301 => (some (bt297.1 == bt301.1))))) (fun k => ?_) (Ev.bind hat (Ev.bind (at_out sa ha (.inr (by omega))) (Ev.bind (at_in sb hb (by omega) (by omega) (hrt (by omega))) ?_)))
                  · simp only [cayleylaw02_RopeConcats.j3, Bool.false_eq_true, if_false]
                    simp only [if_pos (show i ≥ wholeL oa by omega), ew]
                  · refine Ev.congr (f := fun _ => some true) (fun k => ?_) (Ev.now _)
                    simp
end H
end Go.Proofs.YtehbekgmemebjaaDoor.PAll
