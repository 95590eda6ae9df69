import Derived.Test.YtehbekgmemebjaaDoorPAllx0
import Derived.Test.YtehbekgmemebjaaDoorPAllx9
import Derived.Test.YtehbekgmemebjaaDoorPureA
import Derived.Test.YtehbekgmemebjaaDoorPAllx3
namespace Go.Proofs.YtehbekgmemebjaaDoor.PAll
open Go Go.RowKit Go.Proofs.YtehbekgmemebjaaDoorEv Go.Proofs.YtehbekgmemebjaaDoorW.PrintWords Go.Proofs.YtehbekgmemebjaaDoorW.PrintLast Go.Proofs.YtehbekgmemebjaaDoorW.PrintMore H
set_option linter.unusedVariables false
set_option linter.unusedSimpArgs false
namespace H
theorem rdT_mid (pre : List S55) (x : S55) (rest : List S55) : rd_T55 (pre ++ x :: rest) (pre.length : Int) = x := rdT_at (by simp)
theorem behind_l0 (a b : List S55) (hb : b.length ≤ 4000) (ha : a.length ≤ 4000) : ∀ (rest pre acc : List S55), b = pre ++ rest → acc.length = a.length + pre.length → Go.Proofs.YtehbekgmemebjaaDoorW.PrintWords.Ev (fun k => rope_behind.l0 k a acc b (b.length : Int) (pre.length : Int)) (acc ++ rest.map (shiftN a.length)) := by
  intro rest
  induction rest with
  | nil =>
    intro pre acc hp hc
    refine Ev.step (f := fun _ => some acc) (fun k => ?_) (by simpa using Ev.now acc)
    simp only [rope_behind.l0]
    rw [if_neg (by rw [hp]; simp)]
  | cons x rest ih =>
    intro pre acc hp hc
    have hlen : pre.length < b.length := by rw [hp]; simp
    have hrd : rd_T55 b (pre.length : Int) = x := by rw [hp]; exact rdT_mid pre x rest
    have hw : wrap64 ((pre.length : Int) + 1) = ((pre ++ [x]).length : Int) := by rw [w64 (by omega) (by omega)]; simp
    have hacc : (acc.length : Int) < 3518437208883 := by omega
    have nx := ih (pre ++ [x]) (acc ++ [shiftN a.length x]) (by rw [hp]; simp) (by simp; omega)
    have e : acc ++ [shiftN a.length x] ++ rest.map (shiftN a.length) = acc ++ (x :: rest).map (shiftN a.length) := by simp
    rw [e] at nx
    refine Ev.step (f := fun k => rope_behind.l0 k a (acc ++ [shiftN a.length x]) b (b.length : Int) ((pre ++ [x]).length : Int)) (fun k => ?_) nx
    simp only [rope_behind.l0]
    rw [if_pos (by omega), if_pos (by omega), if_pos (by omega), hrd, hw]
    unfold shiftN
    by_cases h0 : x.f0.toList = []
    · rw [if_pos h0, if_pos h0]
      by_cases h3 : x.f3 = 0
      · rw [if_pos h3, if_pos h3, if_pos (by omega)]
      · rw [if_neg h3, if_neg h3, if_pos (by omega)]
    · rw [if_neg h0, if_neg h0, if_pos (by omega)]
theorem rd_app_left {a b : List Int} {i : Int} (h0 : 0 ≤ i) (h1 : i < a.length) : rd (a ++ b) i = rd a i := by
  unfold rd
  rw [List.getD_eq_getElem?_getD, List.getD_eq_getElem?_getD, List.getElem?_append_left (by omega)]
theorem rd_app_right {a b : List Int} {i : Int} (h0 : 0 ≤ i) : rd (a ++ b) (i + a.length) = rd b i := by
  unfold rd
  rw [List.getD_eq_getElem?_getD, List.getD_eq_getElem?_getD, List.getElem?_append_right (by omega)]
  congr 2
  omega
theorem stepL_shift {oa d : List Int} {x : S55} {v : Int} (hl : oa.length ≤ 4000) (hd : d.length ≤ 4000) (h : stepL d x = some v) : stepL (oa ++ d) (shiftN oa.length x) = some v := by
  unfold stepL at h ⊢
  rw [shiftN_f0, shiftN_f3]
  split at h
  · rename_i h0
    have ht := (toList_size _).2 h0
    rw [if_pos h0]
    split at h
    · rename_i h3
      rw [if_pos h3]
      split at h
      · rename_i hc
        obtain ⟨a, b, c, e, f⟩ := hc
        have e1 : (shiftN oa.length x).f1 = x.f1 + oa.length := by rw [shiftN_f1 _ _ ht, w64 (by omega) (by omega)]
        have e2 : (shiftN oa.length x).f2 = x.f2 + oa.length := by rw [shiftN_f2 _ _ ht h3, w64 (by omega) (by omega)]
        rw [e1, e2, rd_app_right a, rd_app_right c, List.length_append]
        rw [if_pos ⟨by omega, by omega, by omega, by omega, f⟩]
        exact h
      · cases h
    · rename_i h3
      rw [if_neg h3]
      split at h
      · rename_i hc
        obtain ⟨a, b, c, e, f⟩ := hc
        have e1 : (shiftN oa.length x).f1 = x.f1 + oa.length := by rw [shiftN_f1 _ _ ht, w64 (by omega) (by omega)]
        have e2 : (shiftN oa.length x).f2 = x.f2 := by unfold shiftN; rw [if_pos ht, if_neg h3]
        rw [e1, e2, rd_app_right b, List.length_append]
        rw [if_pos ⟨a, by omega, by omega, e, f⟩]
        exact h
      · cases h
  · rename_i h0
    have ht : ¬ x.f0.toList = [] := fun hc => h0 ((toList_size _).1 hc)
    have es : shiftN oa.length x = x := by unfold shiftN; rw [if_neg ht]
    rw [if_neg h0, es]
    exact h
def catL (a b : List S55) : List S55 := a ++ b.map (shiftN a.length) ++ [⟨⟨#[]⟩, (a.length : Int) - 1, (a.length : Int) + (b.length : Int) - 1, 0⟩]
def lastL (o : List Int) : Int := rd o ((o.length : Int) - 1)
theorem cat_rope {a b : List S55} {oa ob : List Int} (ha : Rope a oa) (hb : Rope b ob) (na : 0 < a.length) (nb : 0 < b.length) (hl : a.length + b.length + 1 ≤ 4000) (hs : lastL oa + lastL ob ≤ 1152921504606846976) : Rope (catL a b) (oa ++ ob ++ [lastL oa + lastL ob]) := by
  have la := ha.len
  have lb := hb.len
  have ga := ha.good.rd (i := (oa.length : Int) - 1) (by omega) (by omega)
  have gb := hb.good.rd (i := (ob.length : Int) - 1) (by omega) (by omega)
  refine ⟨by unfold catL; simp; omega, by unfold catL; simp; omega, ?_, ?_⟩
  · intro v hv
    rcases List.mem_append.1 hv with hv | hv
    · rcases List.mem_append.1 hv with hv | hv
      · exact ha.good v hv
      · exact hb.good v hv
    · rw [List.mem_singleton.1 hv]
      unfold lastL at hs ⊢
      omega
  · intro j x hx
    unfold catL at hx
    rw [List.getElem?_append, List.length_append, List.length_map] at hx
    split at hx
    · rw [List.getElem?_append] at hx
      split at hx
      · rename_i h1 h2
        obtain ⟨v, p, q⟩ := ha.node j x hx
        refine ⟨v, ?_, ?_⟩
        · rw [List.append_assoc, List.take_append_of_le_length (by omega)]
          exact p
        · rw [List.append_assoc, List.getElem?_append_left (by omega)]
          exact q
      · rename_i h1 h2
        rw [List.getElem?_map] at hx
        obtain ⟨y, hy, rfl⟩ := Option.map_eq_some_iff.1 hx
        obtain ⟨v, p, q⟩ := hb.node _ y hy
        refine ⟨v, ?_, ?_⟩
        · rw [List.take_append_of_le_length (by rw [List.length_append]; omega), List.take_append, List.take_of_length_le (by omega)]
          rw [← la] at p ⊢
          exact stepL_shift (by omega) (by rw [List.length_take]; omega) p
        · rw [List.getElem?_append_left (by rw [List.length_append]; omega), List.getElem?_append_right (by omega), la]
          exact q
    · rename_i h1
      have hj : j = a.length + b.length := by
        have := (List.getElem?_eq_some_iff.1 hx).1
        simp at this
        omega
      subst hj
      have hx' : x = ⟨⟨#[]⟩, (a.length : Int) - 1, (a.length : Int) + (b.length : Int) - 1, 0⟩ := by simpa using hx.symm
      subst hx'
      refine ⟨lastL oa + lastL ob, ?_, ?_⟩
      · have ht : ((oa ++ ob ++ [lastL oa + lastL ob]).take (a.length + b.length)) = oa ++ ob := by
          rw [List.take_append_of_le_length (by rw [List.length_append]; omega), List.take_of_length_le (by rw [List.length_append]; omega)]
        have r1 : rd (oa ++ ob) ((a.length : Int) - 1) = lastL oa := by
          rw [rd_app_left (by omega) (by omega), lastL, la]
        have r2 : rd (oa ++ ob) ((a.length : Int) + (b.length : Int) - 1) = lastL ob := by
          have := rd_app_right (a := oa) (b := ob) (i := (b.length : Int) - 1) (by omega)
          rw [la, show (b.length : Int) - 1 + (a.length : Int) = (a.length : Int) + (b.length : Int) - 1 by omega] at this
          rw [this, lastL, lb]
        rw [ht]
        unfold stepL
        have hz : (⟨#[]⟩ : ByteArray).size = 0 := rfl
        simp only [hz, if_true, r1, r2]
        rw [if_pos ⟨by omega, by rw [List.length_append]; omega, by omega, by rw [List.length_append]; omega, hs⟩]
      · rw [List.getElem?_append_right (by rw [List.length_append]; omega)]
        simp [la, lb]
end H
end Go.Proofs.YtehbekgmemebjaaDoor.PAll
