import Derived.Test.YtehbekgmemebjaaDoorSlM
namespace Go.Proofs.YtehbekgmemebjaaDoorEv
open Go Go.RowKit
set_option linter.unusedVariables false
set_option linter.unusedSimpArgs false
attribute [local go_sem] evOp beq_true beq_false List.getElem?_toArray List.getElem?_cons_zero List.getElem?_cons_succ env_tmp env_const env_func env_global nx_get nx_getn nx_H nx_ds nx_df nx_pm get_enter one_ne_zero' zero_ne_one' if_false if_true ite_true ite_false List.getD_cons_zero List.getD_cons_succ Option.map_some Option.map_none Option.bind_some binO unO eqO List.map_toArray List.map_cons List.map_nil Array.append_empty Array.empty_append List.nil_append List.append_nil List.append_toArray List.cons_append ne_eq not_true_eq_false Bool.false_eq_true Bool.not_true Bool.not_false Bool.true_eq_false
theorem rd_load {H : Hp} {b : Nat} {l : List Int} {u : UT} {ro : Bool} (h : H.get b = some (.cells (l.map (Value.int .i64)) u ro)) {i : Int} (h0 : 0 ≤ i) (h1 : i < l.length) : loadO H (.pointer (some ⟨b, i.toNat, none⟩)) = some (.int .i64 (rd l i)) := by
  simp only [loadO, h]
  have hlt : i.toNat < l.length := by omega
  simp [rd, hlt]
theorem fillLR (a b : Int) : Instr.fill (fun x => ([(0, 1), (1, 1), (2, 1), (3, 1)] : List (Nat × Nat))[x]?) #[.string ⟨#[]⟩, .int .i64 0, .int .i64 0, .int .i64 0] [(1, .int .i64 a), (2, .int .i64 b)] = some #[.string ⟨#[]⟩, .int .i64 a, .int .i64 b, .int .i64 0] := by kernel_rfl
theorem fillT (a b : Int) : Instr.fill (fun x => ([(0, 1), (1, 1), (2, 1), (3, 1)] : List (Nat × Nat))[x]?) #[.string ⟨#[]⟩, .int .i64 0, .int .i64 0, .int .i64 0] [(1, .int .i64 a), (3, .int .i64 b)] = some #[.string ⟨#[]⟩, .int .i64 a, .int .i64 0, .int .i64 b] := by kernel_rfl
theorem fillW (w : ByteArray) : Instr.fill (fun x => ([(0, 1), (1, 1), (2, 1), (3, 1)] : List (Nat × Nat))[x]?) #[.string ⟨#[]⟩, .int .i64 0, .int .i64 0, .int .i64 0] [(0, .string w)] = some #[.string w, .int .i64 0, .int .i64 0, .int .i64 0] := by kernel_rfl
set_option maxHeartbeats 4000000 in
theorem K64 {H : Hp} {mb bn bs : Nat} {s : MS} (hM : MK H mb bn bs s) (he : s.2.length = s.1.length) (hl : s.1.length ≤ 5000) {a b : Int} (ha : a < s.1.length) (hb : b < s.1.length) :
    ∃ H' bn' bs', K 64 #[.pointer (some ⟨mb, 0, none⟩), .int .i64 a, .int .i64 b] H = some (.ret (.int .i64 (joinP s a b).2) H') ∧ MK H' mb bn' bs' (joinP s a b).1 ∧ MSt H H' mb bn bs bn' bs' := by
  unfold joinP
  by_cases h1 : a < 0
  · rw [if_pos h1]
    have e1 : decide (a < 0) = true := decide_eq_true h1
    refine ⟨H, bn, bs, K_call a64_eq (by simp [a64]) ?_, hM, MSt.refl _ _ _ _⟩
    unfold a64
    repeat' (first
        | refine W.seq ?_
        | refine W.wo ?_
        | refine WO.nil ?_
        | (apply WO.ok; (case e => (simp only [go_sem, Nat.reduceEqDiff, Nat.reduceAdd, reduceIte, e1]; first | done | with_reducible rfl)))
        | refine W.ret ?_
        | refine W.block ?_
        | (apply W.branch; (case e => (simp only [go_sem, Nat.reduceEqDiff, Nat.reduceAdd, reduceIte, e1]; first | done | with_reducible rfl)))
        | with_reducible exact tf
        | intro _)
    exact leave0 (by (simp only [go_sem, Nat.reduceEqDiff, Nat.reduceAdd, reduceIte]; first | done | with_reducible rfl)) (res1 (by (simp only [go_sem, Nat.reduceEqDiff, Nat.reduceAdd, reduceIte]; first | done | with_reducible rfl)) (by intro c h; cases h)) (by (simp only [go_sem, Nat.reduceEqDiff, Nat.reduceAdd, reduceIte]; first | done | with_reducible rfl))
  have e1 : decide (a < 0) = false := decide_eq_false h1
  rw [if_neg h1]
  by_cases h2 : b < 0
  · rw [if_pos h2]
    have e2 : decide (b < 0) = true := decide_eq_true h2
    refine ⟨H, bn, bs, K_call a64_eq (by simp [a64]) ?_, hM, MSt.refl _ _ _ _⟩
    unfold a64
    repeat' (first
        | refine W.seq ?_
        | refine W.wo ?_
        | refine WO.nil ?_
        | (apply WO.ok; (case e => (simp only [go_sem, Nat.reduceEqDiff, Nat.reduceAdd, reduceIte, e1, e2]; first | done | with_reducible rfl)))
        | refine W.ret ?_
        | refine W.block ?_
        | (apply W.branch; (case e => (simp only [go_sem, Nat.reduceEqDiff, Nat.reduceAdd, reduceIte, e1, e2]; first | done | with_reducible rfl)))
        | with_reducible exact tf
        | with_reducible exact ft
        | intro _)
    exact leave0 (by (simp only [go_sem, Nat.reduceEqDiff, Nat.reduceAdd, reduceIte]; first | done | with_reducible rfl)) (res1 (by (simp only [go_sem, Nat.reduceEqDiff, Nat.reduceAdd, reduceIte]; first | done | with_reducible rfl)) (by intro c h; cases h)) (by (simp only [go_sem, Nat.reduceEqDiff, Nat.reduceAdd, reduceIte]; first | done | with_reducible rfl))
  have e2 : decide (b < 0) = false := decide_eq_false h2
  rw [if_neg h2]
  obtain ⟨H', bn', bs', k1, k2, k3⟩ := K63 hM he hl ⟨⟨#[]⟩, a, b, 0⟩ (wrap64 (rd s.2 a + rd s.2 b))
  refine ⟨H', bn', bs', K_call a64_eq (by simp [a64]) ?_, k2, k3⟩
  obtain ⟨um, gm⟩ := hM.gm
  obtain ⟨us, hus, gs⟩ := hM.gs
  have l1 : loadO H (.pointer (some ⟨mb, 1, none⟩)) = some (.slice (some ⟨bs, 0, none⟩) s.2.length s.2.length) := by simp only [loadO, gm]; rfl
  have r1 := rd_load gs (i := a) (by omega) (by omega)
  have r2 := rd_load gs (i := b) (by omega) (by omega)
  have x1 : (0 ≤ a ∧ a < (s.2.length : Int)) = True := by simp; omega
  have x2 : (0 ≤ b ∧ b < (s.2.length : Int)) = True := by simp; omega
  have hw : IntKind.i64.wrap (rd s.2 a + rd s.2 b) = wrap64 (rd s.2 a + rd s.2 b) := by simp [IntKind.wrap, IntKind.bits, IntKind.signed, wrap64]; split <;> omega
  have hf := fillLR a b
  unfold a64
  repeat' (first
      | refine W.seq ?_
      | refine W.wo ?_
      | refine WO.nil ?_
      | (apply WO.ok; (case e => (simp only [go_sem, Nat.reduceEqDiff, Nat.reduceAdd, reduceIte, e1, e2]; first | done | with_reducible rfl)))
      | refine W.skip ?_
      | refine W.block ?_
      | (apply W.branch; (case e => (simp only [go_sem, Nat.reduceEqDiff, Nat.reduceAdd, reduceIte, e1, e2]; first | done | with_reducible rfl)))
      | with_reducible exact ft
      | intro _)
  apply W.wd
  case hg => kernel_rfl
  repeat' (first
      | refine W.ret ?_
      | refine WD.nil ?_
      | (apply WD.callv; (case e => (simp only [go_sem, Nat.reduceEqDiff, Nat.reduceAdd, reduceIte, l1, r1, r2, x1, x2, hw, hf, k1, Nat.mul_one, Nat.zero_add]; first | done | with_reducible rfl)); (case c => (simp only [go_sem, Nat.reduceEqDiff, Nat.reduceAdd, reduceIte, l1, r1, r2, x1, x2, hw, hf, k1, Nat.mul_one, Nat.zero_add]; first | done | with_reducible rfl)); (case hi => first | trivial | (simp only [nx_H]; done)); (case hc => rfl))
      | (apply WD.ok; (case e => (simp only [go_sem, Nat.reduceEqDiff, Nat.reduceAdd, reduceIte, l1, r1, r2, x1, x2, hw, hf, k1, Nat.mul_one, Nat.zero_add]; first | done | with_reducible rfl)); (case hi => first | trivial | (simp only [nx_H]; done)); (case hc => first | rfl | (simp only [eqV, beq_self_eq_true, Bool.and_self, Bool.or_true, Bool.and_true, Option.isSome_some]; done))))
  exact leave0 (by (simp only [go_sem, Nat.reduceEqDiff, Nat.reduceAdd, reduceIte]; first | done | with_reducible rfl)) (res1 (by (simp only [go_sem, Nat.reduceEqDiff, Nat.reduceAdd, reduceIte]; first | done | with_reducible rfl)) (by intro c h; cases h)) (by (simp only [go_sem, Nat.reduceEqDiff, Nat.reduceAdd, reduceIte]; first | done | with_reducible rfl))
set_option maxHeartbeats 4000000 in
theorem K65 {H : Hp} {mb bn bs : Nat} {s : MS} (hM : MK H mb bn bs s) (he : s.2.length = s.1.length) (hl : s.1.length ≤ 5000) {a n : Int} (a0 : 0 ≤ a) (ha : a < s.1.length) :
    ∃ H' bn' bs', K 65 #[.pointer (some ⟨mb, 0, none⟩), .int .i64 a, .int .i64 n] H = some (.ret (.int .i64 (timesP s a n).2) H') ∧ MK H' mb bn' bs' (timesP s a n).1 ∧ MSt H H' mb bn bs bn' bs' := by
  unfold timesP
  by_cases h1 : n = 0
  · rw [if_pos h1]
    subst h1
    refine ⟨H, bn, bs, K_call a65_eq (by simp [a65]) ?_, hM, MSt.refl _ _ _ _⟩
    unfold a65
    repeat' (first
        | refine W.seq ?_
        | refine W.wo ?_
        | refine WO.nil ?_
        | (apply WO.ok; (case e => (simp only [go_sem, Nat.reduceEqDiff, Nat.reduceAdd, reduceIte, beq_self_eq_true]; first | done | with_reducible rfl)))
        | refine W.ret ?_
        | refine W.block ?_
        | (apply W.branch; (case e => (simp only [go_sem, Nat.reduceEqDiff, Nat.reduceAdd, reduceIte, beq_self_eq_true]; first | done | with_reducible rfl)))
        | with_reducible exact tf
        | intro _)
    exact leave0 (by (simp only [go_sem, Nat.reduceEqDiff, Nat.reduceAdd, reduceIte]; first | done | with_reducible rfl)) (res1 (by (simp only [go_sem, Nat.reduceEqDiff, Nat.reduceAdd, reduceIte]; first | done | with_reducible rfl)) (by intro c h; cases h)) (by (simp only [go_sem, Nat.reduceEqDiff, Nat.reduceAdd, reduceIte]; first | done | with_reducible rfl))
  have e1 : (n == 0) = false := by simpa using h1
  rw [if_neg h1]
  by_cases h2 : n = 1
  · rw [if_pos h2]
    have e2 : (n == 1) = true := by simpa using h2
    refine ⟨H, bn, bs, K_call a65_eq (by simp [a65]) ?_, hM, MSt.refl _ _ _ _⟩
    unfold a65
    repeat' (first
        | refine W.seq ?_
        | refine W.wo ?_
        | refine WO.nil ?_
        | (apply WO.ok; (case e => (simp only [go_sem, Nat.reduceEqDiff, Nat.reduceAdd, reduceIte, e1, e2]; first | done | with_reducible rfl)))
        | refine W.ret ?_
        | refine W.block ?_
        | (apply W.branch; (case e => (simp only [go_sem, Nat.reduceEqDiff, Nat.reduceAdd, reduceIte, e1, e2]; first | done | with_reducible rfl)))
        | with_reducible exact tf
        | with_reducible exact ft
        | intro _)
    exact leave0 (by (simp only [go_sem, Nat.reduceEqDiff, Nat.reduceAdd, reduceIte]; first | done | with_reducible rfl)) (res1 (by (simp only [go_sem, Nat.reduceEqDiff, Nat.reduceAdd, reduceIte]; first | done | with_reducible rfl)) (by intro c h; cases h)) (by (simp only [go_sem, Nat.reduceEqDiff, Nat.reduceAdd, reduceIte]; first | done | with_reducible rfl))
  have e2 : (n == 1) = false := by simpa using h2
  rw [if_neg h2]
  obtain ⟨H', bn', bs', k1, k2, k3⟩ := K63 hM he hl ⟨⟨#[]⟩, a, 0, n⟩ (wrap64 (n * rd s.2 a))
  refine ⟨H', bn', bs', K_call a65_eq (by simp [a65]) ?_, k2, k3⟩
  obtain ⟨um, gm⟩ := hM.gm
  obtain ⟨us, hus, gs⟩ := hM.gs
  have l1 : loadO H (.pointer (some ⟨mb, 1, none⟩)) = some (.slice (some ⟨bs, 0, none⟩) s.2.length s.2.length) := by simp only [loadO, gm]; rfl
  have r1 := rd_load gs (i := a) (by omega) (by omega)
  have x1 : (0 ≤ a ∧ a < (s.2.length : Int)) = True := by simp; omega
  have hw : IntKind.i64.wrap (n * rd s.2 a) = wrap64 (n * rd s.2 a) := by simp [IntKind.wrap, IntKind.bits, IntKind.signed, wrap64]; split <;> omega
  have hf := fillT a n
  unfold a65
  repeat' (first
      | refine W.seq ?_
      | refine W.wo ?_
      | refine WO.nil ?_
      | (apply WO.callv; (case e => (simp only [go_sem, Nat.reduceEqDiff, Nat.reduceAdd, reduceIte, e1, e2, l1, r1, x1, hw, hf, k1, Nat.mul_one, Nat.zero_add]; first | done | with_reducible rfl)); (case c => (simp only [go_sem, Nat.reduceEqDiff, Nat.reduceAdd, reduceIte, e1, e2, l1, r1, x1, hw, hf, k1, Nat.mul_one, Nat.zero_add]; first | done | with_reducible rfl)))
      | (apply WO.ok; (case e => (simp only [go_sem, Nat.reduceEqDiff, Nat.reduceAdd, reduceIte, e1, e2, l1, r1, x1, hw, hf, k1, Nat.mul_one, Nat.zero_add]; first | done | with_reducible rfl)))
      | refine W.skip ?_
      | refine W.ret ?_
      | refine W.block ?_
      | (apply W.branch; (case e => (simp only [go_sem, Nat.reduceEqDiff, Nat.reduceAdd, reduceIte, e1, e2, l1, r1, x1, hw, hf, k1, Nat.mul_one, Nat.zero_add]; first | done | with_reducible rfl)))
      | with_reducible exact ft
      | intro _)
  exact leave0 (by (simp only [go_sem, Nat.reduceEqDiff, Nat.reduceAdd, reduceIte]; first | done | with_reducible rfl)) (res1 (by (simp only [go_sem, Nat.reduceEqDiff, Nat.reduceAdd, reduceIte]; first | done | with_reducible rfl)) (by intro c h; cases h)) (by (simp only [go_sem, Nat.reduceEqDiff, Nat.reduceAdd, reduceIte]; first | done | with_reducible rfl))
theorem K52 {H : Hp} {b : Nat} {u : UT} {ro : Bool} {i z : Int} (hb : H.get b = some (.cells [.int .i64 z] u ro)) : K 52 #[.int .i64 i, .slice (some ⟨b, 0, none⟩) 1 1] H = some (.ret (.int .i64 (min i z)) H) := by
  refine K_call a52_eq (by simp [a52]) ?_
  have l1 : loadO H (.pointer (some ⟨b, 0, none⟩)) = some (.int .i64 z) := by simp only [loadO, hb]; rfl
  unfold a52
  have c0 : decide ((0 : Int) < ((1 : Nat) : Int)) = true := rfl
  have c1 : decide ((1 : Int) < ((1 : Nat) : Int)) = false := rfl
  have x0 : ((0 : Int) ≤ 0 ∧ (0 : Int) < ((1 : Nat) : Int)) = True := by simp
  have w1 : IntKind.i64.wrap ((0 : Int) + 1) = 1 := rfl
  have n0 : (0 : Int).toNat = 0 := rfl
  repeat' (first
      | refine W.seq ?_
      | refine W.wo ?_
      | refine WO.nil ?_
      | (apply WO.ok; (case e => (simp only [go_sem, Nat.reduceEqDiff, Nat.reduceAdd, reduceIte]; first | done | with_reducible rfl)))
      | refine W.block ?_)
  refine W.loop (fun m st => m ≤ 1 ∧ st.H = H ∧ st.ds = [] ∧ st.get 7 = .slice (some ⟨b, 0, none⟩) 1 1 ∧ st.get 8 = .int .i64 ((1 : Nat) : Int) ∧ ((m = 1 ∧ st.get 9 = .int .i64 0 ∧ st.get 0 = .int .i64 i) ∨ (m = 0 ∧ st.get 9 = .int .i64 1 ∧ st.get 0 = .int .i64 (min i z)))) 1 ⟨Nat.le_refl _, by (simp only [go_sem, Nat.reduceEqDiff, Nat.reduceAdd, reduceIte]; first | done | with_reducible rfl), by (simp only [go_sem, Nat.reduceEqDiff, Nat.reduceAdd, reduceIte]; first | done | with_reducible rfl), by (simp only [go_sem, Nat.reduceEqDiff, Nat.reduceAdd, reduceIte]; first | done | with_reducible rfl), by (simp only [go_sem, Nat.reduceEqDiff, Nat.reduceAdd, reduceIte]; first | done | with_reducible rfl), .inl ⟨rfl, by (simp only [go_sem, Nat.reduceEqDiff, Nat.reduceAdd, reduceIte]; first | done | with_reducible rfl), by (simp only [go_sem, Nat.reduceEqDiff, Nat.reduceAdd, reduceIte]; first | done | with_reducible rfl)⟩⟩ ?_
  rintro m st ⟨hm, hH, hd, g7, g8, ⟨rfl, g9, g0⟩ | ⟨rfl, g9, g0⟩⟩
  · by_cases hlt : z < i
    · have e1 : decide (z < i) = true := decide_eq_true hlt
      have hmin : min i z = z := by omega
      repeat' (first
          | refine W.seq ?_
          | refine W.wo ?_
          | refine WO.nil ?_
          | (apply WO.ok; (case e => (simp only [go_sem, Nat.reduceEqDiff, Nat.reduceAdd, reduceIte, hH, g7, g8, g9, g0, c0, x0, l1, e1, w1, n0, Nat.zero_mul, Nat.zero_add]; first | done | with_reducible rfl)))
          | refine W.skip ?_
          | refine W.block ?_
          | (apply W.branch; (case e => (simp only [go_sem, Nat.reduceEqDiff, Nat.reduceAdd, reduceIte, hH, g7, g8, g9, g0, c0, x0, l1, e1, w1, n0, Nat.zero_mul, Nat.zero_add]; first | done | with_reducible rfl)))
          | with_reducible exact tf
          | intro _)
      exact ⟨0, by omega, by omega, by (simp only [go_sem, Nat.reduceEqDiff, Nat.reduceAdd, reduceIte, hH]; first | done | with_reducible rfl), by (simp only [go_sem, Nat.reduceEqDiff, Nat.reduceAdd, reduceIte, hd]; first | done | with_reducible rfl), by (simp only [go_sem, Nat.reduceEqDiff, Nat.reduceAdd, reduceIte, g7]; first | done | with_reducible rfl), by (simp only [go_sem, Nat.reduceEqDiff, Nat.reduceAdd, reduceIte, g8]; first | done | with_reducible rfl), .inr ⟨rfl, by (simp only [go_sem, Nat.reduceEqDiff, Nat.reduceAdd, reduceIte]; first | done | with_reducible rfl), by rw [hmin]; (simp only [go_sem, Nat.reduceEqDiff, Nat.reduceAdd, reduceIte]; first | done | with_reducible rfl)⟩⟩
    · have e1 : decide (z < i) = false := decide_eq_false hlt
      have hmin : min i z = i := by omega
      repeat' (first
          | refine W.seq ?_
          | refine W.wo ?_
          | refine WO.nil ?_
          | (apply WO.ok; (case e => (simp only [go_sem, Nat.reduceEqDiff, Nat.reduceAdd, reduceIte, hH, g7, g8, g9, g0, c0, x0, l1, e1, w1, n0, Nat.zero_mul, Nat.zero_add]; first | done | with_reducible rfl)))
          | refine W.skip ?_
          | refine W.block ?_
          | (apply W.branch; (case e => (simp only [go_sem, Nat.reduceEqDiff, Nat.reduceAdd, reduceIte, hH, g7, g8, g9, g0, c0, x0, l1, e1, w1, n0, Nat.zero_mul, Nat.zero_add]; first | done | with_reducible rfl)))
          | with_reducible exact tf
          | with_reducible exact ft
          | intro _)
      exact ⟨0, by omega, by omega, by (simp only [go_sem, Nat.reduceEqDiff, Nat.reduceAdd, reduceIte, hH]; first | done | with_reducible rfl), by (simp only [go_sem, Nat.reduceEqDiff, Nat.reduceAdd, reduceIte, hd]; first | done | with_reducible rfl), by (simp only [go_sem, Nat.reduceEqDiff, Nat.reduceAdd, reduceIte, g7]; first | done | with_reducible rfl), by (simp only [go_sem, Nat.reduceEqDiff, Nat.reduceAdd, reduceIte, g8]; first | done | with_reducible rfl), .inr ⟨rfl, by (simp only [go_sem, Nat.reduceEqDiff, Nat.reduceAdd, reduceIte]; first | done | with_reducible rfl), by rw [hmin]; (simp only [go_sem, Nat.reduceEqDiff, Nat.reduceAdd, reduceIte, g0]; first | done | with_reducible rfl)⟩⟩
  · have hz := hm
    repeat' (first
        | refine W.seq ?_
        | refine W.wo ?_
        | refine WO.nil ?_
        | (apply WO.ok; (case e => (simp only [go_sem, Nat.reduceEqDiff, Nat.reduceAdd, reduceIte, hH, g7, g8, g9, g0, c1]; first | done | with_reducible rfl)))
        | refine W.ret ?_
        | refine W.exit ?_
        | (apply W.branch; (case e => (simp only [go_sem, Nat.reduceEqDiff, Nat.reduceAdd, reduceIte, hH, g7, g8, g9, g0, c1]; first | done | with_reducible rfl)))
        | with_reducible exact ft
        | intro _)
    exact leave0 (by (simp only [go_sem, Nat.reduceEqDiff, Nat.reduceAdd, reduceIte, hd]; first | done | with_reducible rfl)) (res1 (by (simp only [go_sem, Nat.reduceEqDiff, Nat.reduceAdd, reduceIte, g0]; first | done | with_reducible rfl)) (by intro c h; cases h)) (by (simp only [go_sem, Nat.reduceEqDiff, Nat.reduceAdd, reduceIte, hH]; first | done | with_reducible rfl))
end Go.Proofs.YtehbekgmemebjaaDoorEv
namespace Go.Proofs.YtehbekgmemebjaaDoorEv
open Go Go.RowKit
set_option linter.unusedVariables false
set_option linter.unusedSimpArgs false
attribute [local go_sem] evOp beq_true beq_false List.getElem?_toArray List.getElem?_cons_zero List.getElem?_cons_succ env_tmp env_const env_func env_global nx_get nx_getn nx_H nx_ds nx_df nx_pm get_enter one_ne_zero' zero_ne_one' if_false if_true ite_true ite_false List.getD_cons_zero List.getD_cons_succ Option.map_some Option.map_none Option.bind_some binO unO eqO List.map_toArray List.map_cons List.map_nil Array.append_empty Array.empty_append List.nil_append List.append_nil List.append_toArray List.cons_append ne_eq not_true_eq_false Bool.false_eq_true Bool.not_true Bool.not_false Bool.true_eq_false
theorem preD_read {s : St} {d : Option Nat} {op : AOp} {g : Option (Option Nat × Bool)} {B : NS} {ch : Bool} {r l : List DOpr} {v : Value} {H' H : Hp} (hr : reads op = true) (e : evOp s.env s.H op = some (.ok v H')) (h : preD r (s.nx s.H d v) = some (l, H)) : preD (⟨⟨d, op, g⟩, B, ch⟩ :: r) s = some (⟨⟨d, op, g⟩, B, ch⟩ :: l, H) := by
  have e1 : preV ⟨⟨d, op, g⟩, B, ch⟩ s = s.nx s.H d v := by
    unfold preV St.nx
    simp only [hr, if_true, e]
  simp only [preD, hr, Bool.or_true, if_true, e1, h]
theorem preD_call {s : St} {d : Option Nat} {op : AOp} {g : Option (Option Nat × Bool)} {B : NS} {r l : List DOpr} {H : Hp} (hr : reads op = false) (h : preD r (s.nx s.H d bad) = some (l, H)) : preD (⟨⟨d, op, g⟩, B, true⟩ :: r) s = some (⟨⟨d, op, g⟩, B, true⟩ :: l, H) := by
  have e1 : preV ⟨⟨d, op, g⟩, B, true⟩ s = s.nx s.H d bad := by
    unfold preV St.nx
    simp only [hr, Bool.false_eq_true, if_false]
  simp only [preD, Bool.true_or, if_true, e1, h]
theorem preD_alloc {s : St} {d : Option Nat} {op c : AOp} {g : Option (Option Nat × Bool)} {B : NS} {r l : List DOpr} {v : Value} {H1 H : Hp} (hr : reads op = false) (hc : claimOf s.H.size op = some c) (e : evOp s.env s.H op = some (.ok v H1)) (h : preD r (s.nx H1 d v) = some (l, H)) : preD (⟨⟨d, op, g⟩, B, false⟩ :: r) s = some (⟨⟨d, c, g⟩, B, false⟩ :: l, H) := by
  unfold St.nx at h
  simp only [preD, hr, Bool.or_false, Bool.false_eq_true, if_false, hc, e, h]
theorem preD_nil {s : St} {H : Hp} (h : s.H = H) : preD [] s = some ([], H) := by rw [← h]; rfl
structure Left (s : MS) (p : MS × Int) : Prop where
  ex : ExM s p.1
  len : p.1.2.length = p.1.1.length
  lt : p.2 < p.1.1.length
theorem Left.stay {s : MS} (he : s.2.length = s.1.length) {i : Int} (hi : i < s.1.length) : Left s (s, i) := ⟨ExM.refl s, he, hi⟩
theorem Left.put {s : MS} (he : s.2.length = s.1.length) (x : S55) (n : Int) : Left s (putP s x n, (s.1.length : Int)) := ⟨ExM.put s x n, by simp [putP, he], by simp [putP]; omega⟩
theorem join_left {s : MS} (he : s.2.length = s.1.length) {a b : Int} (ha : a < s.1.length) (hb : b < s.1.length) : Left s (joinP s a b) := by
  unfold joinP
  by_cases h1 : a < 0
  · rw [if_pos h1]; exact Left.stay he hb
  rw [if_neg h1]
  by_cases h2 : b < 0
  · rw [if_pos h2]; exact Left.stay he ha
  rw [if_neg h2]
  exact Left.put he _ _
theorem times_left {s : MS} (he : s.2.length = s.1.length) {a n : Int} (ha : a < s.1.length) : Left s (timesP s a n) := by
  unfold timesP
  by_cases h1 : n = 0
  · rw [if_pos h1]; exact Left.stay he (by omega)
  rw [if_neg h1]
  by_cases h2 : n = 1
  · rw [if_pos h2]; exact Left.stay he ha
  rw [if_neg h2]
  exact Left.put he _ _
theorem front {l0 : List S55} {o0 : List Int} (hr : Rope l0 o0) {s : MS} (hx : ExM (l0, o0) s) {n : Int} (n0 : 0 ≤ n) (n1 : n < l0.length) : ∃ x, l0[n.toNat]? = some x ∧ rd_T55 s.1 n = x ∧ rd s.2 n = rd o0 n ∧ 1 ≤ rd o0 n ∧ rd o0 n ≤ 1152921504606846976 ∧ NodeIs o0 n.toNat x (rd o0 n) := by
  have h0 : l0[n.toNat]? = some l0[n.toNat] := List.getElem?_eq_getElem (by omega)
  obtain ⟨v, hv, v1, v2, hn⟩ := hr.is h0
  have e1 := rdT_at h0
  have e2 := rd_at' hv
  rw [Int.toNat_of_nonneg n0] at e1 e2
  refine ⟨_, h0, ?_, ?_, by rw [e2]; exact v1, by rw [e2]; exact v2, by rw [e2]; exact hn⟩
  · rw [hx.rdT n0 n1]; exact e1
  · rw [hx.rd n0 (by have := hr.len; show n < (o0.length : Int); omega)]
theorem cut_left {l0 : List S55} {o0 : List Int} (hr : Rope l0 o0) : ∀ (f : Nat) (s : MS), ExM (l0, o0) s → s.2.length = s.1.length → ∀ n i j : Int, 0 ≤ n → n < l0.length → Left s (cutP f s n i j)
  | 0, s, hx, he, n, i, j, n0, n1 => Left.stay he (by omega)
  | f + 1, s, hx, he, n, i, j, n0, n1 => by
    have hls : l0.length ≤ s.1.length := hx.len
    obtain ⟨x, h1, h2, h3, h4, h5, h6⟩ := front hr hx n0 n1
    simp only [cutP]
    by_cases hij : i ≥ j
    · rw [if_pos hij]; exact Left.stay he (by omega)
    rw [if_neg hij]
    by_cases hw : i = 0 ∧ j = rd s.2 n
    · rw [if_pos hw]; exact Left.stay he (by omega)
    rw [if_neg hw, h2]
    cases h6 with
    | leaf h0 e => rw [if_pos h0]; exact Left.put he _ _
    | times h0 ht f0 f1 f2 e =>
      rw [if_neg (by omega), if_pos (by omega)]
      generalize hz : rd s.2 x.f1 = z
      by_cases hpq : Int.tdiv i z = Int.tdiv j z
      · rw [if_pos hpq]; exact cut_left hr f s hx he _ _ _ f0 (by omega)
      rw [if_neg hpq]
      have hh : Left s (if Int.tmod i z > 0 then cutP f s x.f1 (Int.tmod i z) z else (s, -1)) := by
        split
        · exact cut_left hr f s hx he _ _ _ f0 (by omega)
        · exact Left.stay he (by omega)
      generalize (if Int.tmod i z > 0 then cutP f s x.f1 (Int.tmod i z) z else (s, -1)) = ph at *
      have ht' := cut_left hr f ph.1 (hx.trans hh.ex) hh.len x.f1 0 (Int.tmod j z) f0 (by omega)
      generalize cutP f ph.1 x.f1 0 (Int.tmod j z) = pt at *
      have a1 := hh.ex.len
      have a2 := ht'.ex.len
      have hm := times_left ht'.len (a := x.f1) (n := Int.tdiv j z - (if Int.tmod i z > 0 then Int.tdiv i z + 1 else Int.tdiv i z)) (by omega)
      generalize timesP pt.1 x.f1 (Int.tdiv j z - (if Int.tmod i z > 0 then Int.tdiv i z + 1 else Int.tdiv i z)) = pm at *
      have a3 := hm.ex.len
      have hk := join_left hm.len (a := ph.2) (b := pm.2) (by have := hh.lt; omega) hm.lt
      generalize joinP pm.1 ph.2 pm.2 = pk at *
      have a4 := hk.ex.len
      have hj := join_left hk.len (a := pk.2) (b := pt.2) hk.lt (by have := ht'.lt; omega)
      exact ⟨(((hh.ex.trans ht'.ex).trans hm.ex).trans hk.ex).trans hj.ex, hj.len, hj.lt⟩
    | pair h0 ht f0 f1 g0 g1 e =>
      rw [if_neg (by omega), if_neg (by omega)]
      generalize hz : rd s.2 x.f1 = z
      have ha := cut_left hr f s hx he x.f1 (min i z) (min j z) f0 (by omega)
      generalize cutP f s x.f1 (min i z) (min j z) = pa at *
      have a1 := ha.ex.len
      have hb := cut_left hr f pa.1 (hx.trans ha.ex) ha.len x.f2 (max (i - z) 0) (max (j - z) 0) g0 (by omega)
      generalize cutP f pa.1 x.f2 (max (i - z) 0) (max (j - z) 0) = pb at *
      have a2 := hb.ex.len
      have hj := join_left hb.len (a := pa.2) (b := pb.2) (by have := ha.lt; omega) hb.lt
      exact ⟨(ha.ex.trans hb.ex).trans hj.ex, hj.len, hj.lt⟩
theorem node_load {H : Hp} {mb bn bs : Nat} {s : MS} (hM : MK H mb bn bs s) {n : Int} (n0 : 0 ≤ n) (n1 : n < s.1.length) : loadAO H 4 (.pointer (some ⟨bn, n.toNat * 4, none⟩)) = some (.agg #[.string (rd_T55 s.1 n).f0, .int .i64 (rd_T55 s.1 n).f1, .int .i64 (rd_T55 s.1 n).f2, .int .i64 (rd_T55 s.1 n).f3]) := by
  obtain ⟨u, hu, gn⟩ := hM.gn
  have h0 : s.1[n.toNat]? = some s.1[n.toNat] := List.getElem?_eq_getElem (by omega)
  have e1 := rdT_at h0
  rw [Int.toNat_of_nonneg n0] at e1
  rw [e1]
  have h2 : ∀ i, i < 4 → (s.1.flatMap enc55)[n.toNat * 4 + i]? = (enc55 s.1[n.toNat])[i]? := fun i hi => by
    have := enc_get s.1 n.toNat i hi
    rw [h0] at this
    exact this
  have h3 := enc_len s.1
  simp only [loadAO, gn]
  rw [if_pos (by omega)]
  have h4 : ((s.1.flatMap enc55).drop (n.toNat * 4)).take 4 = enc55 s.1[n.toNat] := by
    apply List.ext_getElem?
    intro i
    rw [List.getElem?_take]
    split
    · rename_i hi; rw [List.getElem?_drop]; exact h2 i hi
    · rw [List.getElem?_eq_none (by simp [enc55]; omega)]
  rw [h4]
  rfl
theorem K33 {H : Hp} {b o cp : Nat} {sp : Option Nat} {bc rst : List Value} {u : UT} {ro : Bool} {l0 : List S55} (hb : b < H.size) (hg : H.get b = some (.cells bc u ro)) (hd : bc.drop o = l0.flatMap enc55 ++ rst) (h0 : 0 < l0.length) (h4 : l0.length ≤ 4000) :
    ∃ H' u', K 33 #[.slice (some ⟨b, o, sp⟩) l0.length cp] H = some (.ret (.slice (some ⟨H.size + 1, 0, none⟩) l0.length l0.length) H') ∧ Keep H H' ∧ H'.size = H.size + 2 ∧ H'.get (H.size + 1) = some (.cells (l0.flatMap enc55) u' false) ∧ (u'.u = 4 ∧ u'.ty = 55) := by
  obtain ⟨H1, hH1⟩ : ∃ H1, H.new (.cells [] ⟨0, 55, true⟩ false) = H1 := ⟨_, rfl⟩
  have s1 : H1.size = H.size + 1 := by rw [← hH1, Hp.size_new]
  have k1 : Keep H H1 := by rw [← hH1]; exact Keep.new _ _
  have g1 : H1.get b = some (.cells bc u ro) := (k1.2 b hb).trans hg
  have gM : H1.get H.size = some (.cells [] ⟨0, 55, true⟩ false) := by rw [← hH1, Hp.get_new, if_pos rfl]
  have hlen := enc_len l0
  have hsc : sliceCells H1 4 (.slice (some ⟨b, o, sp⟩) l0.length cp) = some (l0.flatMap enc55) := by
    have h1 := congrArg List.length hd
    rw [List.length_drop, List.length_append, hlen] at h1
    simp only [sliceCells, g1]
    rw [if_neg (by omega), if_pos (by omega), hd, ← hlen, List.take_left' rfl]
  have hs0 : sliceCells H1 4 (.slice (some ⟨H.size, 0, none⟩) 0 0) = some [] := by simp only [sliceCells]; simp
  have hall : (l0.flatMap enc55).all isCell = true := by
    rw [List.all_eq_true]
    intro v hv
    obtain ⟨x, _, hx⟩ := List.mem_flatMap.1 hv
    simp only [enc55, List.mem_cons, List.not_mem_nil, or_false] at hx
    rcases hx with rfl | rfl | rfl | rfl <;> rfl
  have hk : killO H1 55 4 (some ⟨H.size, 0, none⟩) = some H1 := by
    simp only [killO, gM]
    simp
  have happ : appendO H1 55 4 40 (.slice (some ⟨H.size, 0, none⟩) 0 0) (.slice (some ⟨b, o, sp⟩) l0.length cp) = some (.slice (some ⟨H.size + 1, 0, none⟩) l0.length l0.length, H1.new (.cells (l0.flatMap enc55) ⟨4, 55, zO H1 (some ⟨H.size, 0, none⟩)⟩ false)) := by
    unfold appendO
    simp only [lenO, hsc, hs0, hk, Option.bind_eq_bind, Option.bind_some]
    rw [if_neg (by omega), if_neg (by rw [hall]; simp; omega), s1, Nat.zero_add, List.nil_append]
  refine ⟨H1.new (.cells (l0.flatMap enc55) ⟨4, 55, zO H1 (some ⟨H.size, 0, none⟩)⟩ false), ⟨4, 55, zO H1 (some ⟨H.size, 0, none⟩)⟩, K_call a33_eq (by simp [a33]) ?_, k1.trans (Keep.new _ _), by rw [Hp.size_new, s1], by rw [Hp.get_new, s1, if_pos rfl], ⟨rfl, rfl⟩⟩
  unfold a33
  have hf : Instr.fill (fun x => some (x * 4, 4)) (bCells #[.string ⟨#[]⟩, .int .i64 0, .int .i64 0, .int .i64 0] (0 * 4)) [] = some #[] := by kernel_rfl
  repeat' (first
      | refine W.seq ?_
      | refine W.wo ?_
      | refine WO.nil ?_
      | (apply WO.ok; (case e => (simp only [go_sem, Nat.reduceEqDiff, Nat.reduceAdd, reduceIte, hf, hH1, happ]; first | done | with_reducible rfl)))
      | refine W.ret ?_)
  exact leave0 (by (simp only [go_sem, Nat.reduceEqDiff, Nat.reduceAdd, reduceIte]; first | done | with_reducible rfl)) (res1 (by (simp only [go_sem, Nat.reduceEqDiff, Nat.reduceAdd, reduceIte]; first | done | with_reducible rfl)) (by intro c h; cases h)) (by (simp only [go_sem, Nat.reduceEqDiff, Nat.reduceAdd, reduceIte]; first | done | with_reducible rfl))
theorem K32 {H : Hp} {b : Nat} {o : List Int} {u : UT} {ro : Bool} (hb : H.get b = some (.cells (o.map (Value.int .i64)) u ro)) (h4 : o.length ≤ 4000) : K 32 #[.slice (some ⟨b, 0, none⟩) o.length o.length] H = some (.ret (.int .i64 (wholeL o)) H) := by
  refine K_call a32_eq (by simp [a32]) ?_
  unfold a32 wholeL
  by_cases h0 : o.length = 0
  · rw [if_pos h0]
    have e0 : ((o.length : Int) == 0) = true := by rw [beq_iff_eq]; omega
    repeat' (first
        | refine W.seq ?_
        | refine W.wo ?_
        | refine WO.nil ?_
        | (apply WO.ok; (case e => (simp only [go_sem, Nat.reduceEqDiff, Nat.reduceAdd, reduceIte, e0]; first | done | with_reducible rfl)))
        | refine W.ret ?_
        | (apply W.branch; (case e => (simp only [go_sem, Nat.reduceEqDiff, Nat.reduceAdd, reduceIte, e0]; first | done | with_reducible rfl)))
        | with_reducible exact tf
        | intro _)
    exact leave0 (by (simp only [go_sem, Nat.reduceEqDiff, Nat.reduceAdd, reduceIte]; first | done | with_reducible rfl)) (res1 (by (simp only [go_sem, Nat.reduceEqDiff, Nat.reduceAdd, reduceIte]; first | done | with_reducible rfl)) (by intro c h; cases h)) (by (simp only [go_sem, Nat.reduceEqDiff, Nat.reduceAdd, reduceIte]; first | done | with_reducible rfl))
  · rw [if_neg h0]
    have e0 : ((o.length : Int) == 0) = false := by rw [beq_eq_false_iff_ne]; omega
    have hw : IntKind.i64.wrap ((o.length : Int) - 1) = (o.length : Int) - 1 := i64w (by omega) (by omega)
    have x0 : (0 ≤ (o.length : Int) - 1 ∧ (o.length : Int) - 1 < (o.length : Int)) = True := eq_true ⟨by omega, by omega⟩
    have r0 := rd_load hb (i := (o.length : Int) - 1) (by omega) (by omega)
    unfold lastL
    repeat' (first
        | refine W.seq ?_
        | refine W.wo ?_
        | refine WO.nil ?_
        | (apply WO.ok; (case e => (simp only [go_sem, Nat.reduceEqDiff, Nat.reduceAdd, reduceIte, e0, hw, x0, r0, Nat.zero_add, Nat.mul_one]; first | done | with_reducible rfl)))
        | refine W.skip ?_
        | refine W.ret ?_
        | (apply W.branch; (case e => (simp only [go_sem, Nat.reduceEqDiff, Nat.reduceAdd, reduceIte, e0, hw, x0, r0, Nat.zero_add, Nat.mul_one]; first | done | with_reducible rfl)))
        | with_reducible exact ft
        | intro _)
    exact leave0 (by (simp only [go_sem, Nat.reduceEqDiff, Nat.reduceAdd, reduceIte]; first | done | with_reducible rfl)) (res1 (by (simp only [go_sem, Nat.reduceEqDiff, Nat.reduceAdd, reduceIte]; first | done | with_reducible rfl)) (by intro c h; cases h)) (by (simp only [go_sem, Nat.reduceEqDiff, Nat.reduceAdd, reduceIte]; first | done | with_reducible rfl))
end Go.Proofs.YtehbekgmemebjaaDoorEv
