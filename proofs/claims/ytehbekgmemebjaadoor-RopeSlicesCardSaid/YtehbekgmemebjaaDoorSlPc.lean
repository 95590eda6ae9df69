import Derived.Test.YtehbekgmemebjaaDoorSlPa
import Derived.Test.YtehbekgmemebjaaDoorSlRp
namespace Go.Proofs.YtehbekgmemebjaaDoorEv
open Go Go.RowKit
set_option linter.unusedVariables false
set_option linter.unusedSimpArgs false
theorem atB_bt {s : ByteArray} {i : Int} (h0 : 0 ≤ i) (h1 : i < s.size) : atB s i = some (bt s i) := by
  unfold atB
  rw [if_pos h0]
  have h : i.toNat < s.size := by omega
  rw [← bt_at s i h]
  simp [h]
theorem atL_nat {α : Type} {l : List α} {j : Nat} {x : α} (h : l[j]? = some x) : atL l (j : Int) = some x := by
  unfold atL
  rw [if_pos (by omega), Int.toNat_natCast, h]
theorem atL_rd {l : List Int} {i : Int} (h0 : 0 ≤ i) (h1 : i < l.length) : atL l i = some (rd l i) := by
  unfold atL rd
  rw [if_pos h0, List.getD_eq_getElem?_getD, List.getElem?_eq_getElem (by omega)]; rfl
theorem bigF {n b : Nat} (h : n ≤ 100000000) (hb : b ≤ 1000) : bigB n b = false := by
  have : n * b ≤ 100000000 * 1000 := Nat.mul_le_mul h hb
  unfold bigB
  exact decide_eq_false (by omega)
theorem toL_eq (s : ByteArray) : (s.toList == (⟨#[]⟩ : ByteArray).toList) = decide (s.size = 0) := str_empty s
theorem F43_ev (k : Nat) (c : Int) : F43 k (c, ()) = some (isLB c, ()) := by
  have e : isLB c = (decide (c ≥ 97) && decide (c ≤ 104) || decide (c ≥ 65) && decide (c ≤ 72)) := by
    unfold isLB index
    rw [Bool.eq_iff_iff]
    simp only [decide_eq_true_eq, Bool.or_eq_true, Bool.and_eq_true]
    split
    · omega
    · split <;> omega
  rw [e]
  unfold F43
  simp only []
  cases decide (c ≥ (97 : Int)) <;> cases decide (c ≤ (104 : Int)) <;> cases decide (c ≥ (65 : Int)) <;> rfl
abbrev mS (l : List Nd) : List S55 := l.map toS
def wordB (s : ByteArray) (n : Int) : Bool := allLB s && decide ((s.size : Int) ≤ n)
theorem F21_ev (s : ByteArray) (n : Int) (hs : (s.size : Int) ≤ 9223372036854775807) : Evn (fun k => F21 k (s, n, ())) (wordB s n, ()) := by
  unfold F21
  simp only []
  have key := EvI.inv (F := fun k => fun (e : Int × ByteArray × Int × Unit) =>
          if decide (e.fst < (↑e.snd.fst.size : Int)) = true then
            (atB e.snd.fst e.fst).bind fun (x : Int) =>
              (F43 k (x, ())).bind fun (x : Bool × Unit) =>
                if (!x.fst) = true then some (Sum.inr (Sum.inl (false, ())))
                else some (Sum.inl (IntKind.i64.wrap (e.fst + (1 : Int)), e.snd.fst, e.snd.snd.fst, ()))
          else some (Sum.inr (Sum.inr (Sum.inl (e.snd.fst, e.snd.snd.fst, ()))) : Sum (Int × ByteArray × Int × Unit) (Sum (Bool × Unit) (Sum (ByteArray × Int × Unit) Empty))))
    (fun a b => 0 ≤ a.1 ∧ a.1 ≤ s.size ∧ a.2 = (s, n, ()) ∧ (∀ j : Nat, (j : Int) < a.1 → isLB (bt s (j : Int)) = true) ∧ b = (if allLB s then .inr (.inl (s, n, ())) else .inl (false, ()))) (fun a => s.size - a.1.toNat) (by
      rintro ⟨i, e⟩ b ⟨h0, h1, rfl, h2, rfl⟩
      by_cases hi : i < s.size
      · by_cases hl : isLB (bt s i) = true
        · refine ⟨.inl (i + 1, s, n, ()), Evn.eq fun k => ?_, by simp only [] at h0 ⊢; omega, by simp only []; omega, by simp only []; omega, rfl, fun j hj => ?_, rfl⟩
          · simp only [decide_eq_true hi, if_true, atB_bt h0 hi, Option.bind_some, F43_ev, hl, Bool.not_true, Bool.false_eq_true, if_false]
            rw [i64w (by omega) (by omega)]
          · simp only [] at hj
            rcases Int.lt_or_eq_of_le (show (j : Int) ≤ i by omega) with h | h
            · exact h2 j h
            · rw [h]; exact hl
        · have hl' : isLB (bt s i) = false := by simpa using hl
          have := allLB_no (s := s) (pos := i.toNat) (by omega) (by rw [Int.toNat_of_nonneg h0]; exact hl')
          refine ⟨.inr (.inl (false, ())), Evn.eq fun k => ?_, by show _ = _; rw [this]; rfl⟩
          simp [hi, atB_bt h0 hi, F43_ev, hl']
      · have := allLB_yes (s := s) fun j hj => h2 j (by omega)
        refine ⟨.inr (.inr (.inl (s, n, ()))), Evn.eq fun k => ?_, by show _ = _; rw [this]; rfl⟩
        simp [hi])
  refine Evn.bind (g := fun k => sumE (fun (e : Bool × Unit) => some (e.fst, ())) (sumE (fun (e : ByteArray × Int × Unit) => some (decide ((↑e.fst.size : Int) ≤ e.snd.fst), ())) emE)) (key (0, s, n, ()) _ ⟨Int.le_refl 0, by simp only []; omega, rfl, fun j hj => by simp only [] at hj; omega, rfl⟩).ev (Evn.eq fun k => ?_)
  unfold wordB
  cases allLB s <;> simp [sumE]
def Short (l : List Nd) : Prop := ∀ x ∈ l, (x.1.size : Int) ≤ 9223372036854775807
def lensA (r : Option (List Int)) : List Int × Bool × Unit := match r with
  | some o => (o, true, ())
  | none => ([], false, ())
theorem lens_app (done : List Int) (v : Int) : done ++ (List.replicate (1 : Nat) (0 : Int)).set (0 : Nat) v = done ++ [v] := rfl
theorem goodL_app {done : List Int} {v : Int} {x : S55} (hg : goodL done) (h : stepL done x = some v) : goodL (done ++ [v]) := by
  intro z hz
  rcases List.mem_append.1 hz with hz | hz
  · exact hg z hz
  · rw [List.mem_singleton.1 hz]; exact stepL_good hg h
theorem F35_ev (l : List Nd) (hs : Short l) : Evn (fun k => F35 k (l, ())) (lensA (lens (mS l))) := by
  unfold F35
  simp only []
  by_cases hl : (l.length : Int) > 4000
  · refine Evn.eq fun k => ?_
    rw [if_pos (decide_eq_true hl)]
    unfold lens
    rw [if_neg (by simp only [mS, List.length_map]; omega)]
    rfl
  · simp only [decide_eq_false hl, Bool.false_eq_true, if_false]
    have e0 : lens (mS l) = lensF [] (mS l) := by
      unfold lens
      rw [if_pos (by simp only [mS, List.length_map]; omega)]
    rw [e0]
    refine Evn.bind (a := match lensF [] (mS l) with
      | some o => Sum.inr (Sum.inl (o, ()))
      | none => Sum.inl (false, ())) (EvI.ev ?_) (Evn.eq fun k => ?_)
    · refine EvI.inv (fun a b => ∃ pre rest done, a = ((pre.length : Int), l, done, ()) ∧ l = pre ++ rest ∧ done.length = pre.length ∧ goodL done ∧ b = match lensF done (mS rest) with
        | some o => Sum.inr (Sum.inl (o, ()))
        | none => Sum.inl (false, ())) (fun a => l.length - a.1.toNat) ?_ _ _ ⟨[], l, [], rfl, rfl, rfl, fun v hv => (by cases hv), rfl⟩
      rintro a b ⟨pre, rest, done, rfl, hpr, hdl, hg, rfl⟩
      cases rest with
      | nil =>
        refine ⟨_, Evn.eq (r := Sum.inr (Sum.inr (Sum.inl (done, ())))) fun k => ?_, rfl⟩
        simp only []
        rw [if_neg (by rw [hpr]; simp)]
      | cons x rest =>
        have hlen : (pre.length : Int) < l.length := by rw [hpr]; simp; omega
        have hx : l[pre.length]? = some x := by rw [hpr]; simp
        have hat : atL l (pre.length : Int) = some x := atL_nat hx
        have hw : IntKind.i64.wrap ((pre.length : Int) + 1) = ((pre ++ [x]).length : Int) := by rw [i64w (by omega) (by omega)]; simp
        have hxm : x ∈ l := by rw [hpr]; simp
        have hbig : ∀ v : Int, bigB (done.length + ((List.replicate (1 : Nat) (0 : Int)).set (0 : Nat) v).length) 8 = false := fun v => bigF (by simp; omega) (by omega)
        have hcons : lensF done (mS (x :: rest)) = (stepL done (toS x)).bind fun v => lensF (done ++ [v]) (mS rest) := rfl
        refine ⟨match stepL done (toS x) with
          | some v => .inl (((pre ++ [x]).length : Int), l, done ++ [v], ())
          | none => .inr (.inl (false, ())), ?_, ?_⟩
        · obtain ⟨m, hm⟩ := F21_ev x.1 100 (hs x hxm)
          refine ⟨m, fun k hk => ?_⟩
          simp only [decide_eq_true hlen, if_true, hat, Option.bind_some, toL_eq, hm k hk]
          by_cases h0 : x.1.size = 0
          · by_cases h3 : x.2.2.2.1 = 0
            · by_cases c1 : x.2.1 < 0
              · have hst : stepL done (toS x) = none := by
                  unfold stepL toS
                  simp only [h0, h3, if_true]
                  rw [if_neg (by omega)]
                rw [hst]
                simp [h0, h3, c1, sumE]
              · by_cases c2 : x.2.1 ≥ pre.length
                · have hst : stepL done (toS x) = none := by
                    unfold stepL toS
                    simp only [h0, h3, if_true]
                    rw [if_neg (by omega)]
                  rw [hst]
                  simp [h0, h3, c1, c2, sumE]
                · by_cases c3 : x.2.2.1 < 0
                  · have hst : stepL done (toS x) = none := by
                      unfold stepL toS
                      simp only [h0, h3, if_true]
                      rw [if_neg (by omega)]
                    rw [hst]
                    simp [h0, h3, c1, c2, c3, sumE]
                  · by_cases c4 : x.2.2.1 ≥ pre.length
                    · have hst : stepL done (toS x) = none := by
                        unfold stepL toS
                        simp only [h0, h3, if_true]
                        rw [if_neg (by omega)]
                      rw [hst]
                      simp [h0, h3, c1, c2, c3, c4, sumE]
                    · have i1 : (0 : Int) ≤ x.2.1 ∧ x.2.1 < (done.length : Int) := by omega
                      have i2 : (0 : Int) ≤ x.2.2.1 ∧ x.2.2.1 < (done.length : Int) := by omega
                      have a1 := atL_rd i1.1 i1.2
                      have a2 := atL_rd i2.1 i2.2
                      have g1 := hg.rd i1.1 i1.2
                      have g2 := hg.rd i2.1 i2.2
                      have w1 : IntKind.i64.wrap ((1152921504606846976 : Int) - rd done x.2.2.1) = 1152921504606846976 - rd done x.2.2.1 := i64w (by omega) (by omega)
                      have w2 : IntKind.i64.wrap (rd done x.2.1 + rd done x.2.2.1) = rd done x.2.1 + rd done x.2.2.1 := i64w (by omega) (by omega)
                      by_cases c5 : rd done x.2.1 > 1152921504606846976 - rd done x.2.2.1
                      · have hst : stepL done (toS x) = none := by
                          unfold stepL toS
                          simp only [h0, h3, if_true]
                          rw [if_neg (by omega)]
                        rw [hst]
                        simp only [h0, h3, decide_true, Bool.not_true, Bool.false_eq_true, if_false, bne_self_eq_false, decide_eq_false c1, decide_eq_false c2, decide_eq_false c3, decide_eq_false c4, if_pos i1, if_pos i2, a1, a2, Option.bind_some, w1, decide_eq_true c5, sumE, if_true]
                      · have hst : stepL done (toS x) = some (rd done x.2.1 + rd done x.2.2.1) := by
                          unfold stepL toS
                          simp only [h0, h3, if_true]
                          rw [if_pos (by omega)]
                        rw [hst]
                        simp only [h0, h3, decide_true, Bool.not_true, Bool.false_eq_true, if_false, bne_self_eq_false, decide_eq_false c1, decide_eq_false c2, decide_eq_false c3, decide_eq_false c4, if_pos i1, if_pos i2, a1, a2, Option.bind_some, w1, w2, decide_eq_false c5, sumE, if_true, hbig, hw, lens_app]
            · have h3' : (x.2.2.2.1 != (0 : Int)) = true := by simpa using h3
              by_cases c0 : x.2.2.2.1 < 1
              · have hst : stepL done (toS x) = none := by
                  unfold stepL toS
                  simp only [h0, h3, if_true, if_false]
                  rw [if_neg (by omega)]
                rw [hst]
                simp [h0, h3, c0, sumE]
              · by_cases c1 : x.2.1 < 0
                · have hst : stepL done (toS x) = none := by
                    unfold stepL toS
                    simp only [h0, h3, if_true, if_false]
                    rw [if_neg (by omega)]
                  rw [hst]
                  simp [h0, h3, c0, c1, sumE]
                · by_cases c2 : x.2.1 ≥ pre.length
                  · have hst : stepL done (toS x) = none := by
                      unfold stepL toS
                      simp only [h0, h3, if_true, if_false]
                      rw [if_neg (by omega)]
                    rw [hst]
                    simp [h0, h3, c0, c1, c2, sumE]
                  · by_cases c3 : x.2.2.1 = 0
                    · have i1 : (0 : Int) ≤ x.2.1 ∧ x.2.1 < (done.length : Int) := by omega
                      have a1 := atL_rd i1.1 i1.2
                      have g1 := hg.rd i1.1 i1.2
                      have t1 : Int.tdiv 1152921504606846976 (rd done x.2.1) = 1152921504606846976 / rd done x.2.1 := Int.tdiv_eq_ediv_of_nonneg (by omega)
                      have t2 : 0 ≤ 1152921504606846976 / rd done x.2.1 := Int.ediv_nonneg (by omega) (by omega)
                      have t3 : 1152921504606846976 / rd done x.2.1 ≤ 1152921504606846976 := Int.ediv_le_self _ (by omega)
                      have w1 : IntKind.i64.wrap (1152921504606846976 / rd done x.2.1) = 1152921504606846976 / rd done x.2.1 := i64w (by omega) (by omega)
                      have n1 : ¬ rd done x.2.1 = 0 := by omega
                      by_cases c5 : x.2.2.2.1 > 1152921504606846976 / rd done x.2.1
                      · have hst : stepL done (toS x) = none := by
                          unfold stepL toS
                          simp only [h0, h3, if_true, if_false]
                          rw [if_neg (by omega)]
                        rw [hst]
                        simp only [h0, h3', c3, decide_true, Bool.not_true, Bool.false_eq_true, if_false, bne_self_eq_false, decide_eq_false c0, decide_eq_false c1, decide_eq_false c2, if_pos i1, a1, Option.bind_some, if_neg n1, t1, w1, decide_eq_true c5, sumE, if_true]
                      · have hm1 : x.2.2.2.1 * rd done x.2.1 ≤ 1152921504606846976 := (Int.le_ediv_iff_mul_le (by omega)).1 (by omega)
                        have hm2 : 0 ≤ x.2.2.2.1 * rd done x.2.1 := Int.mul_nonneg (by omega) (by omega)
                        have w2 : IntKind.i64.wrap (x.2.2.2.1 * rd done x.2.1) = x.2.2.2.1 * rd done x.2.1 := i64w (by omega) (by omega)
                        have hst : stepL done (toS x) = some (x.2.2.2.1 * rd done x.2.1) := by
                          unfold stepL toS
                          simp only [h0, h3, if_true, if_false]
                          rw [if_pos ⟨by omega, by omega, by omega, c3, by omega⟩]
                        rw [hst]
                        simp only [h0, h3', c3, decide_true, Bool.not_true, Bool.false_eq_true, if_false, bne_self_eq_false, decide_eq_false c0, decide_eq_false c1, decide_eq_false c2, if_pos i1, a1, Option.bind_some, if_neg n1, t1, w1, w2, decide_eq_false c5, sumE, if_true, hbig, hw, lens_app]
                    · have hst : stepL done (toS x) = none := by
                        unfold stepL toS
                        simp only [h0, h3, if_true, if_false]
                        rw [if_neg (by omega)]
                      rw [hst]
                      simp [h0, h3, c0, c1, c2, c3, sumE]
          · have hst : stepL done (toS x) = if (wordB x.1 100 = true ∧ x.2.1 = 0 ∧ x.2.2.1 = 0 ∧ x.2.2.2.1 = 0) then some (x.1.size : Int) else none := by
              unfold stepL toS wordB checkS
              simp only [h0, if_false]
              by_cases q1 : x.1.size ≤ 100
              · cases allLB x.1 <;> simp [q1, show x.1.size ≤ 100000 by omega, show (x.1.size : Int) ≤ 100 by omega]
              · have : ¬ (x.1.size : Int) ≤ 100 := by omega
                simp [q1, this]
            by_cases c1 : wordB x.1 100 = true
            · by_cases c2 : x.2.1 = 0
              · by_cases c3 : x.2.2.1 = 0
                · by_cases c4 : x.2.2.2.1 = 0
                  · rw [if_pos ⟨c1, c2, c3, c4⟩] at hst
                    rw [hst]
                    simp only [decide_eq_false h0, Bool.not_false, if_true, c1, c2, c3, c4, Bool.not_true, Bool.false_eq_true, if_false, bne_self_eq_false, Option.bind_some, sumE, hbig, hw, lens_app]
                  · rw [hst]; simp [h0, c1, c2, c3, c4, sumE]
                · rw [hst]; simp [h0, c1, c2, c3, sumE]
              · rw [hst]; simp [h0, c1, c2, sumE]
            · rw [hst]; simp [h0, c1, sumE]
        · cases hst : stepL done (toS x) with
          | none =>
            show _ = _
            rw [hcons, hst]; rfl
          | some v =>
            refine ⟨?_, pre ++ [x], rest, done ++ [v], rfl, by rw [hpr]; simp, by simp [hdl], goodL_app hg hst, ?_⟩
            · simp only [List.length_append, List.length_singleton]; omega
            · rw [hcons, hst]; rfl
    · unfold lensA
      cases lensF [] (mS l) <;> rfl
end Go.Proofs.YtehbekgmemebjaaDoorEv
namespace Go.Proofs.YtehbekgmemebjaaDoorEv
open Go Go.RowKit
set_option linter.unusedVariables false
set_option linter.unusedSimpArgs false
theorem short_of {a : List Nd} (h : DenOK (.sl N55) a) : Short a := fun x hx => by
  have h1 : x.1.size ≤ maxLen := (h.2 x hx).1
  unfold maxLen at h1
  omega
theorem int_of {n : Int} (h : DenOK (.int .i64) n) : -9223372036854775808 ≤ n ∧ n ≤ 9223372036854775807 := by
  have h1 : (decide (IntKind.i64.min ≤ n) && decide (n ≤ IntKind.i64.max)) = true := h
  simp only [Bool.and_eq_true, decide_eq_true_eq] at h1
  have e1 : IntKind.i64.min = -9223372036854775808 := by decide
  have e2 : IntKind.i64.max = 9223372036854775807 := by decide
  omega
theorem i64wrap (x : Int) : IntKind.i64.wrap x = wrap64 x := by simp [IntKind.wrap, IntKind.bits, IntKind.signed, wrap64]; split <;> omega
theorem mS_len (l : List Nd) : (mS l).length = l.length := List.length_map ..
theorem mS_at {l : List Nd} {n : Int} (h0 : 0 ≤ n) (h1 : n < (mS l).length) : ∃ x : Nd, atL l n = some x ∧ rd_T55 (mS l) n = toS x ∧ l[n.toNat]? = some x := by
  rw [mS_len] at h1
  have hx : l[n.toNat]? = some (l[n.toNat]'(by omega)) := List.getElem?_eq_getElem (by omega)
  refine ⟨_, ?_, ?_, hx⟩
  · unfold atL
    rw [if_pos h0, hx]
  · unfold rd_T55
    rw [List.getD_eq_getElem?_getD, List.getElem?_map, hx]
    rfl
theorem tl_ne {s : ByteArray} : (!(s.toList == (⟨#[]⟩ : ByteArray).toList)) = true ↔ s.toList ≠ [] := by
  rw [toL_eq, Bool.not_eq_true', decide_eq_false_iff_not, ← toList_size]
theorem F37_ev {l : List Nd} {o : List Int} {n i c : Int} (h : LetR (mS l) o n i c) : Evn (fun k => F37 k (l, o, n, i, ())) (c, ()) := by
  induction h with
  | leaf n i h0 h1 hw i0 i1 =>
    obtain ⟨x, e1, e2, _⟩ := mS_at h0 h1
    rw [e2] at hw i1 ⊢
    refine Evn.succ (g := fun _ => some (bt (toS x).f0 i, ())) (fun k => ?_) (Evn.now _)
    simp only [F37, S37, e1, Option.bind_some]
    rw [if_pos ((tl_ne (s := x.1)).2 hw), atB_bt i0 (show i < x.1.size from i1)]
    rfl
  | times n i c h0 h1 hw ht f0 f1 hz h ih =>
    obtain ⟨x, e1, e2, _⟩ := mS_at h0 h1
    rw [e2] at hw ht f0 f1 hz ih
    refine Evn.succ (g := fun k => (F37 k (l, o, (toS x).f1, Int.tmod i (rd o (toS x).f1), ())).bind fun t => some (t.1, ())) (fun k => ?_) (Evn.bind ih (Evn.now _))
    simp only [F37, S37, e1, Option.bind_some]
    rw [if_neg (fun h => (tl_ne (s := x.1)).1 h hw), if_pos (decide_eq_true (show x.2.2.2.1 > 0 from ht))]
    have a1 : atL o x.2.1 = some (rd o x.2.1) := atL_rd f0 f1
    have hz' : ¬ rd o x.2.1 = 0 := hz
    simp only [a1, Option.bind_some, if_neg hz']
    rfl
  | left n i c h0 h1 hw ht f0 f1 hi h ih =>
    obtain ⟨x, e1, e2, _⟩ := mS_at h0 h1
    rw [e2] at hw ht f0 f1 hi ih
    refine Evn.succ (g := fun k => (F37 k (l, o, (toS x).f1, i, ())).bind fun t => some (t.1, ())) (fun k => ?_) (Evn.bind ih (Evn.now _))
    simp only [F37, S37, e1, Option.bind_some]
    rw [if_neg (fun h => (tl_ne (s := x.1)).1 h hw), if_neg (fun h => ht (of_decide_eq_true (p := x.2.2.2.1 > 0) h))]
    have a1 : atL o x.2.1 = some (rd o x.2.1) := atL_rd f0 f1
    have hi' : i < rd o x.2.1 := hi
    simp only [a1, Option.bind_some, decide_eq_true hi', if_true]
    rfl
  | right n i c h0 h1 hw ht f0 f1 hi h ih =>
    obtain ⟨x, e1, e2, _⟩ := mS_at h0 h1
    rw [e2] at hw ht f0 f1 hi ih
    refine Evn.succ (g := fun k => (F37 k (l, o, (toS x).f2, wrap64 (i - rd o (toS x).f1), ())).bind fun t => some (t.1, ())) (fun k => ?_) (Evn.bind ih (Evn.now _))
    simp only [F37, S37, e1, Option.bind_some]
    rw [if_neg (fun h => (tl_ne (s := x.1)).1 h hw), if_neg (fun h => ht (of_decide_eq_true (p := x.2.2.2.1 > 0) h))]
    have a1 : atL o x.2.1 = some (rd o x.2.1) := atL_rd f0 f1
    have hi' : ¬ i < rd o x.2.1 := hi
    simp only [a1, Option.bind_some, decide_eq_false hi', Bool.false_eq_true, if_false, i64wrap]
    rfl
theorem whole_at {o : List Int} (h : 0 < o.length) (hle : o.length ≤ 4000) : atL o (IntKind.i64.wrap ((o.length : Int) - 1)) = some (wholeL o) := by
  rw [i64w (by omega) (by omega), atL_rd (by omega) (by omega)]
  unfold wholeL
  rw [if_neg (by omega)]
  rfl
theorem F35_some {l : List Nd} {o : List Int} (hs : Short l) (h : lens (mS l) = some o) : Evn (fun k => F35 k (l, ())) (o, true, ()) := by
  have := F35_ev l hs
  rw [h] at this
  exact this
theorem F35_none {l : List Nd} (hs : Short l) (h : lens (mS l) = none) : Evn (fun k => F35 k (l, ())) ([], false, ()) := by
  have := F35_ev l hs
  rw [h] at this
  exact this
theorem F12_some {l : List Nd} {o : List Int} (hs : Short l) (h : lens (mS l) = some o) : Evn (fun k => F12 k (l, ())) (wholeL o, 0, ()) := by
  unfold F12
  simp only []
  refine Evn.bind (F35_some hs h) (Evn.eq fun k => ?_)
  have hr := rope_of h
  have h1 := hr.len
  have h2 := hr.le
  simp only [Bool.not_true, Bool.false_eq_true, if_false]
  by_cases h0 : o.length = 0
  · rw [if_pos (by simp [h0])]
    unfold wholeL
    rw [if_pos h0]
  · rw [if_neg (by simpa using h0), if_pos (by rw [i64w (by omega) (by omega)]; omega), whole_at (by omega) (by omega)]
    rfl
theorem F12_none {l : List Nd} (hs : Short l) (h : lens (mS l) = none) : Evn (fun k => F12 k (l, ())) (0, 20, ()) := by
  unfold F12
  simp only []
  exact Evn.bind (F35_none hs h) (Evn.eq fun k => rfl)
theorem F14_in {l : List Nd} {o : List Int} {i c : Int} (hs : Short l) (hl : lens (mS l) = some o) (h0 : 0 ≤ i) (h1 : i < wholeL o) (hc : LetR (mS l) o (((mS l).length : Int) - 1) i c) : Evn (fun k => F14 k (l, i, ())) (c, 0, ()) := by
  have hle := (rope_of hl).le
  rw [mS_len] at hc hle
  unfold F14
  simp only []
  refine Evn.bind (F12_some hs hl) ?_
  simp only [bne_self_eq_false, Bool.false_eq_true, if_false, decide_eq_false (show ¬ i < 0 by omega), decide_eq_false (show ¬ i ≥ wholeL o by omega), Option.bind_some, sumE]
  refine Evn.bind (F35_some hs hl) ?_
  simp only [i64w (show -9223372036854775808 ≤ (l.length : Int) - 1 by omega) (show (l.length : Int) - 1 ≤ 9223372036854775807 by omega)]
  exact Evn.bind (F37_ev hc) (Evn.now _)
end Go.Proofs.YtehbekgmemebjaaDoorEv
