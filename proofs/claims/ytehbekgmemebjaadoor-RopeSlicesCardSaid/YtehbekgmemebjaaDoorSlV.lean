import Derived.Test.YtehbekgmemebjaaDoorSlT
import Derived.Test.YtehbekgmemebjaaDoorSlPa
namespace Go.Proofs.YtehbekgmemebjaaDoorEv
open Go Go.RowKit
set_option linter.unusedVariables false
set_option linter.unusedSimpArgs false
attribute [local go_sem] evOp beq_true beq_false List.getElem?_toArray List.getElem?_cons_zero List.getElem?_cons_succ env_tmp env_const env_func env_global nx_get nx_getn nx_H nx_ds nx_df nx_pm get_enter one_ne_zero' zero_ne_one' if_false if_true ite_true ite_false List.getD_cons_zero List.getD_cons_succ Option.map_some Option.map_none Option.bind_some binO unO eqO List.map_toArray List.map_cons List.map_nil Array.append_empty Array.empty_append List.nil_append List.append_nil List.append_toArray List.cons_append ne_eq not_true_eq_false Bool.false_eq_true Bool.not_true Bool.not_false Bool.true_eq_false
theorem res2t {s : St} {a b : Nat} {v w : Value} (h1 : s.get a = v) (h2 : s.get b = w) (hv : ∀ c, v ≠ .chan c) (hw : ∀ c, w ≠ .chan c) : resultsO s [.tmp a, .tmp b] = some (.tuple #[v, w]) := by
  have e1 : resO s (.tmp a) = some v := by
    simp only [resO]
    rw [h1]
    cases v with
    | chan c => exact absurd rfl (hv c)
    | _ => rfl
  have e2 : resO s (.tmp b) = some w := by
    simp only [resO]
    rw [h2]
    cases w with
    | chan c => exact absurd rfl (hw c)
    | _ => rfl
  simp only [resultsO, List.mapM_cons, List.mapM_nil, e1, e2, Option.bind_eq_bind, Option.bind_some, Option.pure_def, Option.map_some]
theorem cut_main {l : List S55} {o : List Int} (h : Rope l o) (h0 : 0 < l.length) (h4 : l.length ≤ 400) {i j : Int} (i0 : 0 ≤ i) (ij : i < j) (hj : j ≤ rd o ((l.length : Int) - 1)) :
    (cutP (l.length + 1) (l, o) ((l.length : Int) - 1) i j).1.1.length ≤ 4000 ∧ 0 ≤ (cutP (l.length + 1) (l, o) ((l.length : Int) - 1) i j).2 ∧ (cutP (l.length + 1) (l, o) ((l.length : Int) - 1) i j).2 < (cutP (l.length + 1) (l, o) ((l.length : Int) - 1) i j).1.1.length := by
  have hW := W_all ((l.length : Int) - 1) i j (rd o ((l.length : Int) - 1)) (by omega)
  have hc := cut_ok (l.length + 1) (l, o) h ((l.length : Int) - 1) i j (by omega) (by show _ < (l.length : Int); omega) (by omega) i0 (by show i ≤ rd o _; omega) (by omega) hj (by show l.length + WN _ i j (rd o _) ≤ 4000; omega)
  generalize cutP (l.length + 1) (l, o) ((l.length : Int) - 1) i j = p at *
  have hl : p.1.1.length ≤ l.length + WN ((l.length : Int) - 1) i j (rd o ((l.length : Int) - 1)) := hc.len
  have hs := hc.sp
  unfold SpO at hs
  rw [if_neg (by omega)] at hs
  exact ⟨by omega, hs.r0, hs.r1⟩
def errP (n : Nat) (w i j : Int) : Int := if i < 0 ∨ j < i ∨ j > w then 1 else if 400 < n then 2 else 0
section
variable {bs : Option Addr} {cp : Nat} {l0 : List S55} {H : Hp}
def Arg (H : Hp) (bs : Option Addr) (l0 : List S55) : Prop := l0 = [] ∨ ∃ b o sp bc u ro rst, bs = some ⟨b, o, sp⟩ ∧ b < H.size ∧ H.get b = some (.cells bc u ro) ∧ bc.drop o = l0.flatMap enc55 ++ rst
set_option maxHeartbeats 4000000 in
theorem K29e (hL : GG H) (hA : Arg H bs l0) {i j : Int} : ∃ H', Keep H H' ∧
    ((lens l0 = none ∧ K 29 #[.slice bs l0.length cp, .int .i64 i, .int .i64 j] H = some (.ret (.tuple #[.slice none 0 0, .int .i64 20]) H')) ∨
     ∃ o, lens l0 = some o ∧ ((errP l0.length (wholeL o) i j ≠ 0 ∨ i = j) → K 29 #[.slice bs l0.length cp, .int .i64 i, .int .i64 j] H = some (.ret (.tuple #[.slice none 0 0, .int .i64 (errP l0.length (wholeL o) i j)]) H'))) := by
  obtain ⟨H1, k1, ⟨o, b, a1, a2, a3, a4, a5, a6, a7⟩ | ⟨a1, a2⟩⟩ := K31 (cp := cp) hL hA
  · refine ⟨H1, k1, .inr ⟨o, a1, fun hc => ?_⟩⟩
    have hr := rope_of a1
    have c32 := K32 a5 (by have := hr.le; omega)
    rw [a6] at c32
    have z0 : ((0 : Int) != 0) = false := rfl
    unfold errP at hc ⊢
    by_cases d1 : i < 0
    · have e1 : decide (i < 0) = true := decide_eq_true d1
      rw [if_pos (.inl d1)]
      refine K_call a29_eq (by simp [a29]) ?_
      unfold a29
      repeat' (first
          | refine W.seq ?_
          | refine W.wo ?_
          | refine WO.nil ?_
          | (apply WO.callv; (case e => (simp only [go_sem, Nat.reduceEqDiff, Nat.reduceAdd, reduceIte, a4, z0, e1]; first | done | with_reducible rfl)); (case c => (simp only [go_sem, Nat.reduceEqDiff, Nat.reduceAdd, reduceIte, a4, z0, e1]; first | done | with_reducible rfl)))
          | (apply WO.ok; (case e => (simp only [go_sem, Nat.reduceEqDiff, Nat.reduceAdd, reduceIte, a4, z0, e1]; first | done | with_reducible rfl)))
          | (apply WO.guardF; (case hj => (simp only [go_sem, Nat.reduceEqDiff, Nat.reduceAdd, reduceIte, a4, z0, e1]; first | done | with_reducible rfl)))
          | refine W.ret ?_
          | refine W.block ?_
          | (apply W.branch; (case e => (simp only [go_sem, Nat.reduceEqDiff, Nat.reduceAdd, reduceIte, a4, z0, e1]; first | done | with_reducible rfl)))
          | with_reducible exact tf
          | with_reducible exact ft
          | intro _)
      exact leave0 (by (simp only [go_sem, Nat.reduceEqDiff, Nat.reduceAdd, reduceIte]; first | done | with_reducible rfl)) (res2t (by (simp only [go_sem, Nat.reduceEqDiff, Nat.reduceAdd, reduceIte]; first | done | with_reducible rfl)) (by (simp only [go_sem, Nat.reduceEqDiff, Nat.reduceAdd, reduceIte]; first | done | with_reducible rfl)) (by intro c h; cases h) (by intro c h; cases h)) (by (simp only [go_sem, Nat.reduceEqDiff, Nat.reduceAdd, reduceIte]; first | done | with_reducible rfl))
    have e1 : decide (i < 0) = false := decide_eq_false d1
    by_cases d2 : j < i
    · have e2 : decide (j < i) = true := decide_eq_true d2
      rw [if_pos (.inr (.inl d2))]
      refine K_call a29_eq (by simp [a29]) ?_
      unfold a29
      repeat' (first
          | refine W.seq ?_
          | refine W.wo ?_
          | refine WO.nil ?_
          | (apply WO.callv; (case e => (simp only [go_sem, Nat.reduceEqDiff, Nat.reduceAdd, reduceIte, a4, z0, e1, e2]; first | done | with_reducible rfl)); (case c => (simp only [go_sem, Nat.reduceEqDiff, Nat.reduceAdd, reduceIte, a4, z0, e1, e2]; first | done | with_reducible rfl)))
          | (apply WO.ok; (case e => (simp only [go_sem, Nat.reduceEqDiff, Nat.reduceAdd, reduceIte, a4, z0, e1, e2]; first | done | with_reducible rfl)))
          | (apply WO.guardF; (case hj => (simp only [go_sem, Nat.reduceEqDiff, Nat.reduceAdd, reduceIte, a4, z0, e1, e2]; first | done | with_reducible rfl)))
          | refine W.ret ?_
          | refine W.block ?_
          | (apply W.branch; (case e => (simp only [go_sem, Nat.reduceEqDiff, Nat.reduceAdd, reduceIte, a4, z0, e1, e2]; first | done | with_reducible rfl)))
          | with_reducible exact tf
          | with_reducible exact ft
          | intro _)
      exact leave0 (by (simp only [go_sem, Nat.reduceEqDiff, Nat.reduceAdd, reduceIte]; first | done | with_reducible rfl)) (res2t (by (simp only [go_sem, Nat.reduceEqDiff, Nat.reduceAdd, reduceIte]; first | done | with_reducible rfl)) (by (simp only [go_sem, Nat.reduceEqDiff, Nat.reduceAdd, reduceIte]; first | done | with_reducible rfl)) (by intro c h; cases h) (by intro c h; cases h)) (by (simp only [go_sem, Nat.reduceEqDiff, Nat.reduceAdd, reduceIte]; first | done | with_reducible rfl))
    have e2 : decide (j < i) = false := decide_eq_false d2
    by_cases d3 : j > wholeL o
    · have e3 : decide (j > wholeL o) = true := decide_eq_true d3
      rw [if_pos (.inr (.inr d3))]
      refine K_call a29_eq (by simp [a29]) ?_
      unfold a29
      repeat' (first
          | refine W.seq ?_
          | refine W.wo ?_
          | refine WO.nil ?_
          | (apply WO.callv; (case e => (simp only [go_sem, Nat.reduceEqDiff, Nat.reduceAdd, reduceIte, a4, z0, e1, e2, c32, e3]; first | done | with_reducible rfl)); (case c => (simp only [go_sem, Nat.reduceEqDiff, Nat.reduceAdd, reduceIte, a4, z0, e1, e2, c32, e3]; first | done | with_reducible rfl)))
          | (apply WO.ok; (case e => (simp only [go_sem, Nat.reduceEqDiff, Nat.reduceAdd, reduceIte, a4, z0, e1, e2, c32, e3]; first | done | with_reducible rfl)))
          | (apply WO.guardF; (case hj => (simp only [go_sem, Nat.reduceEqDiff, Nat.reduceAdd, reduceIte, a4, z0, e1, e2, c32, e3]; first | done | with_reducible rfl)))
          | refine W.ret ?_
          | refine W.block ?_
          | (apply W.branch; (case e => (simp only [go_sem, Nat.reduceEqDiff, Nat.reduceAdd, reduceIte, a4, z0, e1, e2, c32, e3]; first | done | with_reducible rfl)))
          | with_reducible exact tf
          | with_reducible exact ft
          | intro _)
      exact leave0 (by (simp only [go_sem, Nat.reduceEqDiff, Nat.reduceAdd, reduceIte]; first | done | with_reducible rfl)) (res2t (by (simp only [go_sem, Nat.reduceEqDiff, Nat.reduceAdd, reduceIte]; first | done | with_reducible rfl)) (by (simp only [go_sem, Nat.reduceEqDiff, Nat.reduceAdd, reduceIte]; first | done | with_reducible rfl)) (by intro c h; cases h) (by intro c h; cases h)) (by (simp only [go_sem, Nat.reduceEqDiff, Nat.reduceAdd, reduceIte]; first | done | with_reducible rfl))
    have e3 : decide (j > wholeL o) = false := decide_eq_false d3
    rw [if_neg (by omega)] at hc ⊢
    by_cases d4 : 400 < l0.length
    · have e4 : decide ((l0.length : Int) > 400) = true := decide_eq_true (by omega)
      rw [if_pos d4]
      refine K_call a29_eq (by simp [a29]) ?_
      unfold a29
      repeat' (first
          | refine W.seq ?_
          | refine W.wo ?_
          | refine WO.nil ?_
          | (apply WO.callv; (case e => (simp only [go_sem, Nat.reduceEqDiff, Nat.reduceAdd, reduceIte, a4, z0, e1, e2, c32, e3, e4]; first | done | with_reducible rfl)); (case c => (simp only [go_sem, Nat.reduceEqDiff, Nat.reduceAdd, reduceIte, a4, z0, e1, e2, c32, e3, e4]; first | done | with_reducible rfl)))
          | (apply WO.ok; (case e => (simp only [go_sem, Nat.reduceEqDiff, Nat.reduceAdd, reduceIte, a4, z0, e1, e2, c32, e3, e4]; first | done | with_reducible rfl)))
          | (apply WO.guardF; (case hj => (simp only [go_sem, Nat.reduceEqDiff, Nat.reduceAdd, reduceIte, a4, z0, e1, e2, c32, e3, e4]; first | done | with_reducible rfl)))
          | refine W.ret ?_
          | refine W.block ?_
          | (apply W.branch; (case e => (simp only [go_sem, Nat.reduceEqDiff, Nat.reduceAdd, reduceIte, a4, z0, e1, e2, c32, e3, e4]; first | done | with_reducible rfl)))
          | with_reducible exact tf
          | with_reducible exact ft
          | intro _)
      exact leave0 (by (simp only [go_sem, Nat.reduceEqDiff, Nat.reduceAdd, reduceIte]; first | done | with_reducible rfl)) (res2t (by (simp only [go_sem, Nat.reduceEqDiff, Nat.reduceAdd, reduceIte]; first | done | with_reducible rfl)) (by (simp only [go_sem, Nat.reduceEqDiff, Nat.reduceAdd, reduceIte]; first | done | with_reducible rfl)) (by intro c h; cases h) (by intro c h; cases h)) (by (simp only [go_sem, Nat.reduceEqDiff, Nat.reduceAdd, reduceIte]; first | done | with_reducible rfl))
    have e4 : decide ((l0.length : Int) > 400) = false := decide_eq_false (by omega)
    rw [if_neg d4] at hc ⊢
    have e5 : (i == j) = true := beq_iff_eq.2 (by simpa using hc)
    refine K_call a29_eq (by simp [a29]) ?_
    unfold a29
    repeat' (first
        | refine W.seq ?_
        | refine W.wo ?_
        | refine WO.nil ?_
        | (apply WO.callv; (case e => (simp only [go_sem, Nat.reduceEqDiff, Nat.reduceAdd, reduceIte, a4, z0, e1, e2, c32, e3, e4, e5]; first | done | with_reducible rfl)); (case c => (simp only [go_sem, Nat.reduceEqDiff, Nat.reduceAdd, reduceIte, a4, z0, e1, e2, c32, e3, e4, e5]; first | done | with_reducible rfl)))
        | (apply WO.ok; (case e => (simp only [go_sem, Nat.reduceEqDiff, Nat.reduceAdd, reduceIte, a4, z0, e1, e2, c32, e3, e4, e5]; first | done | with_reducible rfl)))
        | (apply WO.guardF; (case hj => (simp only [go_sem, Nat.reduceEqDiff, Nat.reduceAdd, reduceIte, a4, z0, e1, e2, c32, e3, e4, e5]; first | done | with_reducible rfl)))
        | refine W.ret ?_
        | refine W.block ?_
        | (apply W.branch; (case e => (simp only [go_sem, Nat.reduceEqDiff, Nat.reduceAdd, reduceIte, a4, z0, e1, e2, c32, e3, e4, e5]; first | done | with_reducible rfl)))
        | with_reducible exact tf
        | with_reducible exact ft
        | intro _)
    exact leave0 (by (simp only [go_sem, Nat.reduceEqDiff, Nat.reduceAdd, reduceIte]; first | done | with_reducible rfl)) (res2t (by (simp only [go_sem, Nat.reduceEqDiff, Nat.reduceAdd, reduceIte]; first | done | with_reducible rfl)) (by (simp only [go_sem, Nat.reduceEqDiff, Nat.reduceAdd, reduceIte]; first | done | with_reducible rfl)) (by intro c h; cases h) (by intro c h; cases h)) (by (simp only [go_sem, Nat.reduceEqDiff, Nat.reduceAdd, reduceIte]; first | done | with_reducible rfl))
  · refine ⟨H1, k1, .inl ⟨a1, ?_⟩⟩
    have z0 : ((20 : Int) != 0) = true := rfl
    refine K_call a29_eq (by simp [a29]) ?_
    unfold a29
    repeat' (first
        | refine W.seq ?_
        | refine W.wo ?_
        | refine WO.nil ?_
        | (apply WO.callv; (case e => (simp only [go_sem, Nat.reduceEqDiff, Nat.reduceAdd, reduceIte, a2, z0]; first | done | with_reducible rfl)); (case c => (simp only [go_sem, Nat.reduceEqDiff, Nat.reduceAdd, reduceIte, a2, z0]; first | done | with_reducible rfl)))
        | (apply WO.ok; (case e => (simp only [go_sem, Nat.reduceEqDiff, Nat.reduceAdd, reduceIte, a2, z0]; first | done | with_reducible rfl)))
        | refine W.ret ?_
        | refine W.block ?_
        | (apply W.branch; (case e => (simp only [go_sem, Nat.reduceEqDiff, Nat.reduceAdd, reduceIte, a2, z0]; first | done | with_reducible rfl)))
        | with_reducible exact tf
        | intro _)
    exact leave0 (by (simp only [go_sem, Nat.reduceEqDiff, Nat.reduceAdd, reduceIte]; first | done | with_reducible rfl)) (res2t (by (simp only [go_sem, Nat.reduceEqDiff, Nat.reduceAdd, reduceIte]; first | done | with_reducible rfl)) (by (simp only [go_sem, Nat.reduceEqDiff, Nat.reduceAdd, reduceIte]; first | done | with_reducible rfl)) (by intro c h; cases h) (by intro c h; cases h)) (by (simp only [go_sem, Nat.reduceEqDiff, Nat.reduceAdd, reduceIte]; first | done | with_reducible rfl))
set_option maxHeartbeats 4000000 in
theorem K29m (hL : GG H) (hA : Arg H bs l0) {i j : Int} {o : List Int} (hl : lens l0 = some o) (he : errP l0.length (wholeL o) i j = 0) (hij : ¬ i = j) : ∃ H' b u rest N, Keep H H' ∧ H.size ≤ b ∧ b < H'.size ∧
    K 29 #[.slice bs l0.length cp, .int .i64 i, .int .i64 j] H = some (.ret (.tuple #[.slice (some ⟨b, 0, none⟩) (sliceP l0 o i j).length N, .int .i64 0]) H') ∧ H'.get b = some (.cells ((sliceP l0 o i j).flatMap enc55 ++ rest) u false) ∧ (u.u = 0 ∨ u.u = 4) ∧ (sliceP l0 o i j).length ≤ N := by
  have hr := rope_of hl
  have hle := hr.le
  have hol := hr.len
  unfold errP at he
  have hc : ¬ (i < 0 ∨ j < i ∨ j > wholeL o) := fun h => by rw [if_pos h] at he; cases he
  rw [if_neg hc] at he
  have hn : ¬ 400 < l0.length := fun h => by rw [if_pos h] at he; cases he
  obtain ⟨h0, hj⟩ := whole_pos hl (i := i) (by omega) (by omega)
  have hwl : wholeL o = rd o ((l0.length : Int) - 1) := by
    unfold wholeL lastL
    rw [if_neg (by omega), hol]
  obtain ⟨c1, c2, c3⟩ := cut_main hr h0 (by omega) (i := i) (j := j) (by omega) (by omega) (by omega)
  obtain ⟨H1, k1, ⟨o', b, a1, a2, a3, a4, a5, a6, a7⟩ | ⟨a1, a2⟩⟩ := K31 (cp := cp) hL hA
  case inr => rw [hl] at a1; cases a1
  rw [hl] at a1
  cases a1
  have c32 := K32 a5 (by omega)
  rw [a6] at c32
  obtain ⟨b0, of, sp, bc, u0, ro, rst, rfl, hb0, hg0, hd0⟩ : ∃ b o sp bc u ro rst, bs = some ⟨b, o, sp⟩ ∧ b < H.size ∧ H.get b = some (.cells bc u ro) ∧ bc.drop o = l0.flatMap enc55 ++ rst := by
    rcases hA with h | h
    · rw [h] at h0; simp at h0
    · exact h
  have k1s := k1.1
  obtain ⟨H2, u2, c33, k2, s2, g2, hu2⟩ := K33 (H := H1) (cp := cp) (sp := sp) (by omega) ((k1.2 b0 hb0).trans hg0) hd0 h0 hle
  obtain ⟨H3, hH3⟩ : ∃ H3, H2.new (.cells [.slice (some ⟨H1.size + 1, 0, none⟩) l0.length l0.length, .slice (some ⟨b, 0, none⟩) l0.length l0.length] ⟨0, 76, true⟩ false) = H3 := ⟨_, rfl⟩
  have k3 : Keep H2 H3 := by rw [← hH3]; exact Keep.new _ _
  have s3 : H3.size = H1.size + 3 := by rw [← hH3, Hp.size_new, s2]
  have hM : MK H3 (H1.size + 2) (H1.size + 1) b (l0, o) := by
    refine ⟨by omega, by omega, by omega, by omega, by omega, by omega, ⟨⟨0, 76, true⟩, ?_⟩, ⟨u2, .inr hu2, ?_⟩, ⟨⟨0, 3, true⟩, .inl rfl, ?_⟩⟩
    · rw [← hH3, Hp.get_new, s2, if_pos rfl, hol]
    · rw [k3.2 _ (by omega)]; exact g2
    · rw [k3.2 _ (by omega), k2.2 _ (by omega)]; exact a5
  obtain ⟨H4, bn', bs', c48, m4, t4⟩ := K48 hr (l0.length + 1) H3 (H1.size + 2) (H1.size + 1) b (l0, o) hM (ExM.refl _) hol ((l0.length : Int) - 1) i j (by omega) (by omega) (by omega) (by omega) (by omega) (by omega) (by omega) c1
  have hsp : sliceP l0 o i j = (cutP (l0.length + 1) (l0, o) ((l0.length : Int) - 1) i j).1.1.take ((cutP (l0.length + 1) (l0, o) ((l0.length : Int) - 1) i j).2 + 1).toNat := rfl
  generalize cutP (l0.length + 1) (l0, o) ((l0.length : Int) - 1) i j = p at *
  have hlen : (sliceP l0 o i j).length = (p.2 + 1).toNat := by rw [hsp, List.length_take]; omega
  obtain ⟨um, gm⟩ := m4.gm
  obtain ⟨un, hun, gn⟩ := m4.gn
  have l4 : loadO H4 (.pointer (some ⟨H1.size + 2, 0, none⟩)) = some (.slice (some ⟨bn', 0, none⟩) p.1.1.length p.1.1.length) := by simp only [loadO, gm]; rfl
  have hsl : sliceO H4 4 (.slice (some ⟨bn', 0, none⟩) p.1.1.length p.1.1.length) none (some (.int .i64 (p.2 + 1))) none = some (.slice (some ⟨bn', 0, none⟩) (sliceP l0 o i j).length p.1.1.length) := by
    have e2 : boundO 0 p.1.1.length (.int .i64 (p.2 + 1)) = some (p.2 + 1).toNat := by unfold boundO; simp only []; rw [if_pos (by omega)]
    have e3 : boundsO p.1.1.length p.1.1.length none (some (.int .i64 (p.2 + 1))) none = some (0, (p.2 + 1).toNat, p.1.1.length) := by
      unfold boundsO optBound
      simp [e2]
    have hun' : un.u = 0 ∨ un.u = 4 := by omega
    unfold sliceO
    simp [e3, gn, hun', hlen]
  have hw1 : IntKind.i64.wrap ((l0.length : Int) - 1) = (l0.length : Int) - 1 := i64w (by omega) (by omega)
  have hw2 : IntKind.i64.wrap (p.2 + 1) = p.2 + 1 := i64w (by omega) (by omega)
  have z0 : ((0 : Int) != 0) = false := rfl
  have e1 : decide (i < 0) = false := decide_eq_false (by omega)
  have e2 : decide (j < i) = false := decide_eq_false (by omega)
  have e3 : decide (j > wholeL o) = false := decide_eq_false (by omega)
  have e4 : decide ((l0.length : Int) > 400) = false := decide_eq_false (by omega)
  have e5 : (i == j) = false := by rw [beq_eq_false_iff_ne]; exact hij
  have hfm : Instr.fill (fun x => ([(0, 1), (1, 1)] : List (Nat × Nat))[x]?) #[.slice none 0 0, .slice none 0 0] [(0, .slice (some ⟨H1.size + 1, 0, none⟩) l0.length l0.length), (1, .slice (some ⟨b, 0, none⟩) l0.length l0.length)] = some #[.slice (some ⟨H1.size + 1, 0, none⟩) l0.length l0.length, .slice (some ⟨b, 0, none⟩) l0.length l0.length] := by kernel_rfl
  have hca : (Value.agg #[.slice (some ⟨H1.size + 1, 0, none⟩) l0.length l0.length, .slice (some ⟨b, 0, none⟩) l0.length l0.length]).cells.toList = [.slice (some ⟨H1.size + 1, 0, none⟩) l0.length l0.length, .slice (some ⟨b, 0, none⟩) l0.length l0.length] := rfl
  have hkeep : Keep H H4 := by
    refine ⟨by have := t4.le; omega, fun c hc => ?_⟩
    rw [t4.keep c (by omega) (by omega) (by omega) (by omega), k3.2 c (by omega), k2.2 c (by omega), k1.2 c hc]
  have hbn := t4.n
  refine ⟨H4, bn', un, (p.1.1.drop (p.2 + 1).toNat).flatMap enc55, p.1.1.length, hkeep, by omega, m4.n0, ?_, ?_, by omega, by rw [hlen]; omega⟩
  · refine K_call a29_eq (by simp [a29]) ?_
    unfold a29
    repeat' (first
        | refine W.seq ?_
        | refine W.wo ?_
        | refine WO.nil ?_
        | (apply WO.callv; (case e => (simp only [go_sem, Nat.reduceEqDiff, Nat.reduceAdd, reduceIte, a4, z0, e1, e2, c32, e3, e4, e5, c33, hfm, hca, s2, hH3, hw1, c48, l4, hw2, hsl]; first | done | with_reducible rfl)); (case c => (simp only [go_sem, Nat.reduceEqDiff, Nat.reduceAdd, reduceIte, a4, z0, e1, e2, c32, e3, e4, e5, c33, hfm, hca, s2, hH3, hw1, c48, l4, hw2, hsl]; first | done | with_reducible rfl)))
        | (apply WO.ok; (case e => (simp only [go_sem, Nat.reduceEqDiff, Nat.reduceAdd, reduceIte, a4, z0, e1, e2, c32, e3, e4, e5, c33, hfm, hca, s2, hH3, hw1, c48, l4, hw2, hsl]; first | done | with_reducible rfl)))
        | (apply WO.guardF; (case hj => (simp only [go_sem, Nat.reduceEqDiff, Nat.reduceAdd, reduceIte, a4, z0, e1, e2, c32, e3, e4, e5, c33, hfm, hca, s2, hH3, hw1, c48, l4, hw2, hsl]; first | done | with_reducible rfl)))
        | refine W.skip ?_
        | refine W.ret ?_
        | refine W.block ?_
        | (apply W.branch; (case e => (simp only [go_sem, Nat.reduceEqDiff, Nat.reduceAdd, reduceIte, a4, z0, e1, e2, c32, e3, e4, e5, c33, hfm, hca, s2, hH3, hw1, c48, l4, hw2, hsl]; first | done | with_reducible rfl)))
        | with_reducible exact ft
        | intro _)
    exact leave0 (by (simp only [go_sem, Nat.reduceEqDiff, Nat.reduceAdd, reduceIte]; first | done | with_reducible rfl)) (res2t (by (simp only [go_sem, Nat.reduceEqDiff, Nat.reduceAdd, reduceIte]; first | done | with_reducible rfl)) (by (simp only [go_sem, Nat.reduceEqDiff, Nat.reduceAdd, reduceIte]; first | done | with_reducible rfl)) (by intro c h; cases h) (by intro c h; cases h)) (by (simp only [go_sem, Nat.reduceEqDiff, Nat.reduceAdd, reduceIte]; first | done | with_reducible rfl))
  · rw [gn, hsp, ← List.flatMap_append, List.take_append_drop]
end
end Go.Proofs.YtehbekgmemebjaaDoorEv
namespace Go.Proofs.YtehbekgmemebjaaDoorEv
open Go Go.RowKit
set_option linter.unusedVariables false
set_option linter.unusedSimpArgs false
theorem args3 {H : Hp} {Z : Nat → Prop} {t u w : Ty} {e : Pe [t, u, w]} {vs : List Value} (h : ArgsOK H Z [t, u, w] e vs) : ∃ x y z, vs = [x, y, z] ∧ RepV H Z t e.1 x ∧ RepV H Z u e.2.1 y ∧ RepV H Z w e.2.2.1 z := by
  match vs, h with
  | [x, y, z], h => exact ⟨x, y, z, rfl, h.1, h.2.1, h.2.2.1⟩
  | [], h => exact h.elim
  | [_], h => exact h.2.elim
  | [_, _], h => exact h.2.2.elim
  | _ :: _ :: _ :: _ :: _, h => exact h.2.2.2.elim
def ofS (x : S55) : Nd := (x.f0, x.f1, x.f2, x.f3, ())
theorem map_ofS (l : List S55) : (l.map ofS).map toS = l := by
  rw [List.map_map]
  exact List.map_id'' (fun _ => rfl) l
theorem rep_ofS {H : Hp} {Z : Nat → Prop} (x : S55) : Rep H Z N55 (ofS x) (enc55 x) := ⟨[.string x.f0], _, rfl, rfl, [.int .i64 x.f1], _, rfl, rfl, [.int .i64 x.f2], _, rfl, rfl, [.int .i64 x.f3], [], rfl, rfl, rfl⟩
theorem reps_ofS {H : Hp} {Z : Nat → Prop} : ∀ l : List S55, All2 (Rep H Z N55) (l.map ofS) (l.map enc55)
  | [] => trivial
  | x :: l => ⟨rep_ofS x, reps_ofS l⟩
def F29 (_ : Nat) (e : List Nd × Int × Int × Unit) : Option (List Nd × Int × Unit) := match lens (e.1.map toS) with
  | none => some ([], (20 : Int), ())
  | some o => if errP e.1.length (wholeL o) e.2.1 e.2.2.1 ≠ 0 ∨ e.2.1 = e.2.2.1 then some ([], errP e.1.length (wholeL o) e.2.1 e.2.2.1, ()) else some ((sliceP (e.1.map toS) o e.2.1 e.2.2.1).map ofS, (0 : Int), ())
def pc29 : PC KK GG := ⟨29, [.sl N55, .int .i64, .int .i64], [(.sl N55, none), (.int .i64, none)], F29, fun k H Z e vs hG hz ha r hr => by
  obtain ⟨v, w, y, rfl, hv, hw, hy⟩ := args3 ha
  rw [repv_sl] at hv
  rw [repv_int] at hw hy
  subst hw hy
  obtain ⟨base, cp, hvv, hcase⟩ := hv
  simp only [List.cons.injEq, and_true] at hvv
  subst hvv
  have hA : Arg H base (e.1.map toS) := by
    rcases hcase with ⟨h, _⟩ | ⟨b, o, sp, bc, u, ro, ps, rest, h1, h2, h3, h4, h5, _⟩
    · exact .inl (by rw [h]; rfl)
    · exact .inr ⟨b, o, sp, bc, u, ro, rest, h1, hz b h2, h3, by rw [h4, reps55 h5]⟩
  have hnil : ∀ {H' : Hp} {Z' : Nat → Prop} {er : Int}, K 29 #[.slice base e.1.length cp, .int .i64 e.2.1, .int .i64 e.2.2.1] H = some (.ret (.tuple #[.slice none 0 0, .int .i64 er]) H') → Keep H H' → r = ([], er, ()) → ∃ v H' Z' ws, KK 29 [Value.slice base e.1.length cp, .int .i64 e.2.1, .int .i64 e.2.2.1].toArray H = some (.ret v H') ∧ Kept H H' ∧ (∀ b, Z b → Z' b) ∧ (∀ b, Z' b → b < H'.size) ∧ (∀ b, Z' b → b < H.size → Z b) ∧ v = packV ws ∧ RsOK H' Z' H.size [(.sl N55, none), (.int .i64, none)] r ws := by
    intro H' Z' er h1 h2 h3
    subst h3
    exact ⟨_, H', Z, [_, _], h1, h2, fun _ h => h, fun b hb => Nat.lt_of_lt_of_le (hz b hb) h2.1, fun _ h _ => h, rfl, repv_sl.2 ⟨none, 0, rfl, .inl ⟨rfl, fun _ => rfl⟩⟩, repv_int.2 rfl, trivial⟩
  obtain ⟨H1, k1, hc⟩ := K29e (cp := cp) hG hA (i := e.2.1) (j := e.2.2.1)
  rw [List.length_map] at hc
  unfold F29 at hr
  rcases hc with ⟨h1, h2⟩ | ⟨o, h1, h2⟩
  · rw [h1] at hr
    cases hr
    exact hnil (Z' := Z) h2 k1 rfl
  · rw [h1] at hr
    simp only [] at hr
    by_cases hcond : errP e.1.length (wholeL o) e.2.1 e.2.2.1 ≠ 0 ∨ e.2.1 = e.2.2.1
    · rw [if_pos hcond] at hr
      cases hr
      exact hnil (Z' := Z) (h2 hcond) k1 rfl
    · rw [if_neg hcond] at hr
      cases hr
      obtain ⟨H', b, u, rest, N, hk, hb0, hb1, h3, h4, h5, h6⟩ := K29m (cp := cp) hG hA h1 (by rw [List.length_map]; exact Decidable.not_not.1 fun h => hcond (.inl h)) (fun h => hcond (.inr h))
      rw [List.length_map] at h3
      have hk' : Kept H H' := hk
      refine ⟨_, H', fun c => Z c ∨ c = b, [_, _], h3, hk', fun _ h => .inl h, ?_, ?_, rfl, ?_, repv_int.2 rfl, trivial⟩
      · rintro c (h | rfl)
        · exact Nat.lt_of_lt_of_le (hz c h) hk'.1
        · exact hb1
      · rintro c (h | rfl) hl
        · exact h
        · exact absurd hl (by omega)
      · rw [repv_sl]
        refine ⟨some ⟨b, 0, none⟩, N, by rw [List.length_map], .inr ⟨b, 0, none, _, _, _, (sliceP (e.1.map toS) o e.2.1 e.2.2.1).map enc55, rest, rfl, .inr rfl, h4, ?_, reps_ofS _, .inr ?_, by decide, by rw [List.length_map]; exact h6⟩⟩
        · rw [List.drop_zero, List.flatMap_def]
        · rcases h5 with h5 | h5
          · exact .inl h5
          · exact .inr h5⟩
end Go.Proofs.YtehbekgmemebjaaDoorEv
