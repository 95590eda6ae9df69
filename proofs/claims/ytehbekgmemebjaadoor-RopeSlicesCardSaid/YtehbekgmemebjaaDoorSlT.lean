import Derived.Test.YtehbekgmemebjaaDoorSlQ
namespace Go.Proofs.YtehbekgmemebjaaDoorEv
open Go Go.RowKit
set_option linter.unusedVariables false
set_option linter.unusedSimpArgs false
attribute [local go_sem] evOp beq_true beq_false List.getElem?_toArray List.getElem?_cons_zero List.getElem?_cons_succ env_tmp env_const env_func env_global nx_get nx_getn nx_H nx_ds nx_df nx_pm get_enter one_ne_zero' zero_ne_one' if_false if_true ite_true ite_false List.getD_cons_zero List.getD_cons_succ Option.map_some Option.map_none Option.bind_some binO unO eqO List.map_toArray List.map_cons List.map_nil Array.append_empty Array.empty_append List.nil_append List.append_nil List.append_toArray List.cons_append ne_eq not_true_eq_false Bool.false_eq_true Bool.not_true Bool.not_false Bool.true_eq_false
section
variable {l0 : List S55} {o0 : List Int} {H H1 H2 : Hp} {M mb bn bs : Nat} {s : MS} {n i j : Int} {x : S55}
def P48n (H3 : Hp) (M mb : Nat) (j z p q hd : Int) (t : St) : Prop := t.H = H3 ∧ t.ds = [] ∧ t.get 0 = .pointer (some ⟨mb, 0, none⟩) ∧ t.get 3 = .int .i64 j ∧ t.get 9 = .pointer (some ⟨M, 0, none⟩) ∧ t.get 10 = .int .i64 z ∧ t.get 11 = .int .i64 p ∧ t.get 12 = .int .i64 q ∧ t.get 13 = .int .i64 hd
set_option maxHeartbeats 4000000 in
theorem W48e (c : CxC l0 o0 H H1 H2 M mb bn bs s n i j x) {f : Nat} (ih : IH48 l0 o0 f) (nf : n < f + 1) (hij : ¬ i ≥ j) (hw : ¬ (i = 0 ∧ j = rd o0 n)) (h0 : x.f0.size = 0) (ht : 1 ≤ x.f3) (f0 : 0 ≤ x.f1) (f1 : x.f1 < n.toNat)
    {z p' : Int} {ph pt pm pk : MS × Int} (hz : rd o0 x.f1 = z) (hpq : ¬ Int.tdiv i z = Int.tdiv j z)
    (hpdef : (if Int.tmod i z > 0 then Int.tdiv i z + 1 else Int.tdiv i z) = p') (hphdef : (if Int.tmod i z > 0 then cutP f s x.f1 (Int.tmod i z) z else (s, -1)) = ph) (hpt : cutP f ph.1 x.f1 0 (Int.tmod j z) = pt) (hpm : timesP pt.1 x.f1 (Int.tdiv j z - p') = pm) (hpk : joinP pm.1 ph.2 pm.2 = pk)
    (hl : (joinP pk.1 pk.2 pt.2).1.1.length ≤ 4000) : W K a48.body (E48 mb n i j H) (Q48 H mb bn bs (joinP pk.1 pk.2 pt.2)) := by
  obtain ⟨hr, hM, hx, he, n0, n1, i0, i1, j0, j1, v2, hnode, hn4, l0m, x0, x1, hMs, hH1, s2, st2, k2, gb, lz1, lz2⟩ := id c
  have hls : l0.length ≤ s.1.length := hx.len
  have hol := hr.len
  have hle := hr.le
  have hM2 := c.m2
  have e1 : decide (i ≥ j) = false := decide_eq_false hij
  obtain ⟨q0, q1, q2, q3⟩ := box_loads gb
  have hfn : x.f1 < l0.length := by omega
  obtain ⟨_, _, _, hzo, z1, z2, _⟩ := front hr hx f0 hfn
  obtain ⟨lz3, lz4⟩ := size_load hM2 f0 (show x.f1 < s.2.length by omega)
  rw [hzo] at lz4
  rw [hz] at lz4 z1 z2 hzo
  have e4 : (!(x.f0.toList == (⟨#[]⟩ : ByteArray).toList)) = false := by rw [str_empty]; simp [h0]
  have e5 : (x.f3 != 0) = true := by rw [bne_iff_ne]; omega
  have x2 : (0 ≤ x.f1 ∧ x.f1 < (s.2.length : Int)) = True := eq_true ⟨f0, by omega⟩
  have hz0 : (z = 0) = False := eq_false (by omega)
  have tp := Int.tdiv_eq_ediv_of_nonneg (b := z) i0
  have tq := Int.tdiv_eq_ediv_of_nonneg (b := z) j0
  have p0 : 0 ≤ Int.tdiv i z := by rw [tp]; exact Int.ediv_nonneg i0 (by omega)
  have qq0 : 0 ≤ Int.tdiv j z := by rw [tq]; exact Int.ediv_nonneg j0 (by omega)
  have p2 : Int.tdiv i z ≤ i := by rw [tp]; exact Int.ediv_le_self _ i0
  have qq2 : Int.tdiv j z ≤ j := by rw [tq]; exact Int.ediv_le_self _ j0
  have ai := Int.tmod_nonneg z i0
  have aj := Int.tmod_nonneg z j0
  have bi := Int.tmod_lt_of_pos i (show 0 < z by omega)
  have bj := Int.tmod_lt_of_pos j (show 0 < z by omega)
  have wp : IntKind.i64.wrap (Int.tdiv i z) = Int.tdiv i z := i64w (by omega) (by omega)
  have wq : IntKind.i64.wrap (Int.tdiv j z) = Int.tdiv j z := i64w (by omega) (by omega)
  have e6 : (Int.tdiv i z == Int.tdiv j z) = false := by rw [beq_eq_false_iff_ne]; exact hpq
  have hh : Left s ph := by
    rw [← hphdef]
    split
    · exact cut_left hr f s hx he _ _ _ f0 hfn
    · exact Left.stay he (by omega)
  have hxp := hx.trans hh.ex
  have ht' := cut_left hr f ph.1 hxp hh.len x.f1 0 (Int.tmod j z) f0 hfn
  rw [hpt] at ht'
  have hpp : 0 ≤ p' ∧ p' ≤ i + 1 := by rw [← hpdef]; split <;> omega
  have a1 := hh.ex.len
  have a2 := ht'.ex.len
  have hm := times_left ht'.len (a := x.f1) (n := Int.tdiv j z - p') (by omega)
  rw [hpm] at hm
  have a3 := hm.ex.len
  have hk := join_left hm.len (a := ph.2) (b := pm.2) (by have := hh.lt; omega) hm.lt
  rw [hpk] at hk
  have a4 := hk.ex.len
  have hj := join_left hk.len (a := pk.2) (b := pt.2) hk.lt (by have := ht'.lt; omega)
  have a5 := hj.ex.len
  -- the head
  obtain ⟨H3, bn1, bs1, m3, t3, hhead⟩ : ∃ H3 bn1 bs1, MK H3 mb bn1 bs1 ph.1 ∧ MSt H2 H3 mb bn bs bn1 bs1 ∧
      ((decide (Int.tmod i z > 0) = true ∧ K 48 #[.pointer (some ⟨mb, 0, none⟩), .int .i64 x.f1, .int .i64 (Int.tmod i z), .int .i64 z] H2 = some (.ret (.int .i64 ph.2) H3) ∧ IntKind.i64.wrap (Int.tdiv i z + 1) = p') ∨
       (decide (Int.tmod i z > 0) = false ∧ (H3 = H2 ∧ ph.2 = -1) ∧ Int.tdiv i z = p')) := by
    by_cases c1 : Int.tmod i z > 0
    · rw [if_pos c1] at hphdef hpdef
      obtain ⟨H3, bn1, bs1, c2, c3, c4⟩ := ih H2 mb bn bs s hM2 hx he x.f1 (Int.tmod i z) z f0 hfn (by omega) ai (by omega) (by omega) (by omega) (by rw [hphdef]; omega)
      rw [hphdef] at c2 c3
      exact ⟨H3, bn1, bs1, c3, c4, .inl ⟨decide_eq_true c1, c2, by rw [hpdef]; exact i64w (by omega) (by omega)⟩⟩
    · rw [if_neg c1] at hphdef hpdef
      rw [← hphdef]
      exact ⟨H2, bn, bs, hM2, MSt.refl _ _ _ _, .inr ⟨decide_eq_false c1, ⟨rfl, rfl⟩, hpdef⟩⟩
  have mM := c.apart
  have gb3 : H3.get M = some (.cells (enc55 x) ⟨0, 55, true⟩ false) := by rw [t3.keep M (by omega) mM.1 mM.2.1 mM.2.2]; exact gb
  obtain ⟨_, r1, _, _⟩ := box_loads gb3
  -- the tail
  obtain ⟨H4, bn2, bs2, hct, m4, t4⟩ := ih H3 mb bn1 bs1 ph.1 m3 hxp hh.len x.f1 0 (Int.tmod j z) f0 hfn (by omega) (by omega) (by omega) aj (by omega) (by rw [hpt]; omega)
  rw [hpt] at hct m4
  have t24 := t3.trans t4
  have gb4 : H4.get M = some (.cells (enc55 x) ⟨0, 55, true⟩ false) := by rw [t24.keep M (by omega) mM.1 mM.2.1 mM.2.2]; exact gb
  obtain ⟨_, u1, _, _⟩ := box_loads gb4
  -- the copies and the joins
  obtain ⟨H5, bn3, bs3, hc5, m5, t5⟩ := K65 m4 ht'.len (by omega) (n := Int.tdiv j z - p') f0 (show x.f1 < pt.1.1.length by omega)
  rw [hpm] at hc5 m5
  obtain ⟨H6, bn4, bs4, hc6, m6, t6⟩ := K64 m5 hm.len (by omega) (a := ph.2) (b := pm.2) (by have := hh.lt; omega) hm.lt
  rw [hpk] at hc6 m6
  obtain ⟨H7, bn5, bs5, hc7, m7, t7⟩ := K64 m6 hk.len (by omega) (a := pk.2) (b := pt.2) hk.lt (by have := ht'.lt; omega)
  have t27 := ((t24.trans t5).trans t6).trans t7
  have wd : IntKind.i64.wrap (Int.tdiv j z - p') = Int.tdiv j z - p' := i64w (by omega) (by omega)
  rcases hsplit48 hw with ⟨e2, e3⟩ | ⟨e2, e3⟩
  all_goals
    unfold a48
    repeat' (first
        | refine W.seq ?_
        | refine W.wo ?_
        | refine WO.nil ?_
        | (apply WO.ok; (case e => (simp only [go_sem, Nat.reduceEqDiff, Nat.reduceAdd, reduceIte, l0m, x0, hn4, hMs, hH1, st2, e1, e2, lz1, lz2, x1, e3, q0, e4, q3, e5, Nat.zero_add, Nat.mul_one]; first | done | with_reducible rfl)))
        | (apply WO.guardT; (case hj => (simp only [go_sem, Nat.reduceEqDiff, Nat.reduceAdd, reduceIte, l0m, x0, hn4, hMs, hH1, st2, e1, e2, lz1, lz2, x1, e3, q0, e4, q3, e5, Nat.zero_add, Nat.mul_one]; first | done | with_reducible rfl)))
        | refine W.block ?_
        | (apply W.branch; (case e => (simp only [go_sem, Nat.reduceEqDiff, Nat.reduceAdd, reduceIte, l0m, x0, hn4, hMs, hH1, st2, e1, e2, lz1, lz2, x1, e3, q0, e4, q3, e5, Nat.zero_add, Nat.mul_one]; first | done | with_reducible rfl)))
        | with_reducible exact tf
        | with_reducible exact ft
        | intro _)
    refine W.gen (P48 H2 M mb i j) ⟨by (simp only [go_sem, Nat.reduceEqDiff, Nat.reduceAdd, reduceIte]; first | done | with_reducible rfl), by (simp only [go_sem, Nat.reduceEqDiff, Nat.reduceAdd, reduceIte]; first | done | with_reducible rfl), by (simp only [go_sem, Nat.reduceEqDiff, Nat.reduceAdd, reduceIte]; first | done | with_reducible rfl), by (simp only [go_sem, Nat.reduceEqDiff, Nat.reduceAdd, reduceIte]; first | done | with_reducible rfl), by (simp only [go_sem, Nat.reduceEqDiff, Nat.reduceAdd, reduceIte]; first | done | with_reducible rfl), by (simp only [go_sem, Nat.reduceEqDiff, Nat.reduceAdd, reduceIte]; first | done | with_reducible rfl)⟩ ?_
    rintro t ⟨rfl, td, t0, t2, t3, t9⟩
    apply W.wq
    case hg => kernel_rfl
    repeat' (first
        | refine W.seq ?_
        | refine WD.nil ?_
        | (apply WD.ok; (case e => (simp only [go_sem, Nat.reduceEqDiff, Nat.reduceAdd, reduceIte, t0, t2, t3, t9, lz3, lz4, q1, x2, Nat.zero_add, Nat.mul_one]; first | done | with_reducible rfl)); (case hi => first | trivial | (simp only [nx_H]; done)); (case hc => first | rfl | (simp only [eqV, beq_self_eq_true, Bool.and_self, Bool.or_true, Bool.and_true, Option.isSome_some]; done))))
    apply W.wq
    case hg => kernel_rfl
    rcases hhead with ⟨e7, hch, hpw⟩ | ⟨e7, ⟨h32, hch⟩, hpw⟩
    rotate_left
    focus
      repeat' (first
          | refine W.seq ?_
          | refine W.wo ?_
          | refine WO.nil ?_
          | (apply WO.ok; (case e => (simp only [go_sem, Nat.reduceEqDiff, Nat.reduceAdd, reduceIte, t0, t2, t3, t9, hz0, wp, wq, e6, e7]; first | done | with_reducible rfl)))
          | refine W.skip ?_
          | (apply W.branch; (case e => (simp only [go_sem, Nat.reduceEqDiff, Nat.reduceAdd, reduceIte, t0, t2, t3, t9, hz0, wp, wq, e6, e7]; first | done | with_reducible rfl)))
          | refine WD.nil ?_
          | (apply WD.ok; (case e => (simp only [go_sem, Nat.reduceEqDiff, Nat.reduceAdd, reduceIte, t0, t2, t3, t9, hz0, wp, wq, e6, e7]; first | done | with_reducible rfl)); (case hi => first | trivial | (simp only [nx_H]; done)); (case hc => first | rfl | (simp only [eqV, beq_self_eq_true, Bool.and_self, Bool.or_true, Bool.and_true, Option.isSome_some]; done)))
          | with_reducible exact ft
          | intro _)
      refine W.gen (P48n H3 M mb j z p' (Int.tdiv j z) ph.2) ⟨by (simp only [go_sem, Nat.reduceEqDiff, Nat.reduceAdd, reduceIte, h32]; first | done | with_reducible rfl), by (simp only [go_sem, Nat.reduceEqDiff, Nat.reduceAdd, reduceIte, td]; first | done | with_reducible rfl), by (simp only [go_sem, Nat.reduceEqDiff, Nat.reduceAdd, reduceIte, t0]; first | done | with_reducible rfl), by (simp only [go_sem, Nat.reduceEqDiff, Nat.reduceAdd, reduceIte, t3]; first | done | with_reducible rfl), by (simp only [go_sem, Nat.reduceEqDiff, Nat.reduceAdd, reduceIte, t9]; first | done | with_reducible rfl), by (simp only [go_sem, Nat.reduceEqDiff, Nat.reduceAdd, reduceIte]; first | done | with_reducible rfl), by (simp only [go_sem, Nat.reduceEqDiff, Nat.reduceAdd, reduceIte, hpw]; first | done | with_reducible rfl), by (simp only [go_sem, Nat.reduceEqDiff, Nat.reduceAdd, reduceIte]; first | done | with_reducible rfl), by (simp only [go_sem, Nat.reduceEqDiff, Nat.reduceAdd, reduceIte, hch]; first | done | with_reducible rfl)⟩ ?_
    rotate_left
    focus
      repeat' (first
          | refine W.seq ?_
          | refine W.wo ?_
          | refine WO.nil ?_
          | (apply WO.ok; (case e => (simp only [go_sem, Nat.reduceEqDiff, Nat.reduceAdd, reduceIte, t0, t2, t3, t9, hz0, wp, wq, e6, e7]; first | done | with_reducible rfl)))
          | refine W.skip ?_
          | (apply W.branch; (case e => (simp only [go_sem, Nat.reduceEqDiff, Nat.reduceAdd, reduceIte, t0, t2, t3, t9, hz0, wp, wq, e6, e7]; first | done | with_reducible rfl)))
          | refine WD.nil ?_
          | (apply WD.ok; (case e => (simp only [go_sem, Nat.reduceEqDiff, Nat.reduceAdd, reduceIte, t0, t2, t3, t9, hz0, wp, wq, e6, e7]; first | done | with_reducible rfl)); (case hi => first | trivial | (simp only [nx_H]; done)); (case hc => first | rfl | (simp only [eqV, beq_self_eq_true, Bool.and_self, Bool.or_true, Bool.and_true, Option.isSome_some]; done)))
          | with_reducible exact tf
          | with_reducible exact ft
          | intro _)
      apply W.wd
      case hg => kernel_rfl
      repeat' (first
          | refine W.seq ?_
          | refine W.wo ?_
          | refine WO.nil ?_
          | (apply WO.ok; (case e => (simp only [go_sem, Nat.reduceEqDiff, Nat.reduceAdd, reduceIte, t0, t2, t3, t9, q1, hz0, hch, hpw]; first | done | with_reducible rfl)))
          | refine WD.nil ?_
          | (apply WD.callv; (case e => (simp only [go_sem, Nat.reduceEqDiff, Nat.reduceAdd, reduceIte, t0, t2, t3, t9, q1, hz0, hch, hpw]; first | done | with_reducible rfl)); (case c => (simp only [go_sem, Nat.reduceEqDiff, Nat.reduceAdd, reduceIte, t0, t2, t3, t9, q1, hz0, hch, hpw]; first | done | with_reducible rfl)); (case hi => first | trivial | (simp only [nx_H]; done)); (case hc => rfl))
          | (apply WD.ok; (case e => (simp only [go_sem, Nat.reduceEqDiff, Nat.reduceAdd, reduceIte, t0, t2, t3, t9, q1, hz0, hch, hpw]; first | done | with_reducible rfl)); (case hi => first | trivial | (simp only [nx_H]; done)); (case hc => first | rfl | (simp only [eqV, beq_self_eq_true, Bool.and_self, Bool.or_true, Bool.and_true, Option.isSome_some]; done))))
      refine W.gen (P48n H3 M mb j z p' (Int.tdiv j z) ph.2) ⟨by (simp only [go_sem, Nat.reduceEqDiff, Nat.reduceAdd, reduceIte]; first | done | with_reducible rfl), by (simp only [go_sem, Nat.reduceEqDiff, Nat.reduceAdd, reduceIte, td]; first | done | with_reducible rfl), by (simp only [go_sem, Nat.reduceEqDiff, Nat.reduceAdd, reduceIte, t0]; first | done | with_reducible rfl), by (simp only [go_sem, Nat.reduceEqDiff, Nat.reduceAdd, reduceIte, t3]; first | done | with_reducible rfl), by (simp only [go_sem, Nat.reduceEqDiff, Nat.reduceAdd, reduceIte, t9]; first | done | with_reducible rfl), by (simp only [go_sem, Nat.reduceEqDiff, Nat.reduceAdd, reduceIte]; first | done | with_reducible rfl), by (simp only [go_sem, Nat.reduceEqDiff, Nat.reduceAdd, reduceIte]; first | done | with_reducible rfl), by (simp only [go_sem, Nat.reduceEqDiff, Nat.reduceAdd, reduceIte]; first | done | with_reducible rfl), by (simp only [go_sem, Nat.reduceEqDiff, Nat.reduceAdd, reduceIte]; first | done | with_reducible rfl)⟩ ?_
    all_goals
      rintro t' ⟨rfl, td, t0, t3, t9, t10, t11, t12, t13⟩
      apply W.wd
      case hg => kernel_rfl
      repeat' (first
          | refine W.seq ?_
          | refine W.wo ?_
          | refine WO.nil ?_
          | (apply WO.callv; (case e => (simp only [go_sem, Nat.reduceEqDiff, Nat.reduceAdd, reduceIte, t0, t3, t9, t10, t11, t12, t13, r1, hz0, hct, u1, wd, hc5, hc6, hc7]; first | done | with_reducible rfl)); (case c => (simp only [go_sem, Nat.reduceEqDiff, Nat.reduceAdd, reduceIte, t0, t3, t9, t10, t11, t12, t13, r1, hz0, hct, u1, wd, hc5, hc6, hc7]; first | done | with_reducible rfl)))
          | (apply WO.ok; (case e => (simp only [go_sem, Nat.reduceEqDiff, Nat.reduceAdd, reduceIte, t0, t3, t9, t10, t11, t12, t13, r1, hz0, hct, u1, wd, hc5, hc6, hc7]; first | done | with_reducible rfl)))
          | refine W.ret ?_
          | refine WD.nil ?_
          | (apply WD.callv; (case e => (simp only [go_sem, Nat.reduceEqDiff, Nat.reduceAdd, reduceIte, t0, t3, t9, t10, t11, t12, t13, r1, hz0, hct, u1, wd, hc5, hc6, hc7]; first | done | with_reducible rfl)); (case c => (simp only [go_sem, Nat.reduceEqDiff, Nat.reduceAdd, reduceIte, t0, t3, t9, t10, t11, t12, t13, r1, hz0, hct, u1, wd, hc5, hc6, hc7]; first | done | with_reducible rfl)); (case hi => first | trivial | (simp only [nx_H]; done)); (case hc => rfl))
          | (apply WD.ok; (case e => (simp only [go_sem, Nat.reduceEqDiff, Nat.reduceAdd, reduceIte, t0, t3, t9, t10, t11, t12, t13, r1, hz0, hct, u1, wd, hc5, hc6, hc7]; first | done | with_reducible rfl)); (case hi => first | trivial | (simp only [nx_H]; done)); (case hc => first | rfl | (simp only [eqV, beq_self_eq_true, Bool.and_self, Bool.or_true, Bool.and_true, Option.isSome_some]; done))))
      exact ⟨rfl, by (simp only [go_sem, Nat.reduceEqDiff, Nat.reduceAdd, reduceIte, td]; first | done | with_reducible rfl), by (simp only [go_sem, Nat.reduceEqDiff, Nat.reduceAdd, reduceIte]; first | done | with_reducible rfl), bn5, bs5, by simp only [nx_H]; exact m7, by simp only [nx_H]; exact c.ms.trans t27⟩
end
end Go.Proofs.YtehbekgmemebjaaDoorEv
namespace Go.Proofs.YtehbekgmemebjaaDoorEv
open Go Go.RowKit
set_option linter.unusedVariables false
set_option linter.unusedSimpArgs false
attribute [local go_sem] evOp beq_true beq_false List.getElem?_toArray List.getElem?_cons_zero List.getElem?_cons_succ env_tmp env_const env_func env_global nx_get nx_getn nx_H nx_ds nx_df nx_pm get_enter one_ne_zero' zero_ne_one' if_false if_true ite_true ite_false List.getD_cons_zero List.getD_cons_succ Option.map_some Option.map_none Option.bind_some binO unO eqO List.map_toArray List.map_cons List.map_nil Array.append_empty Array.empty_append List.nil_append List.append_nil List.append_toArray List.cons_append ne_eq not_true_eq_false Bool.false_eq_true Bool.not_true Bool.not_false Bool.true_eq_false
section
variable {l0 : List S55} {o0 : List Int} {H H1 H2 : Hp} {M mb bn bs : Nat} {s : MS} {n i j : Int} {x : S55}
set_option maxHeartbeats 4000000 in
theorem W48f (c : CxC l0 o0 H H1 H2 M mb bn bs s n i j x) {f : Nat} (ih : IH48 l0 o0 f) (nf : n < f + 1) (hij : ¬ i ≥ j) (hw : ¬ (i = 0 ∧ j = rd o0 n)) (h0 : x.f0.size = 0) (ht : x.f3 = 0) (f0 : 0 ≤ x.f1) (f1 : x.f1 < n.toNat) (g0 : 0 ≤ x.f2) (g1 : x.f2 < n.toNat)
    {z y : Int} {pa pb : MS × Int} (hz : rd o0 x.f1 = z) (hy : rd o0 x.f2 = y) (e : rd o0 n = z + y) (hpa : cutP f s x.f1 (min i z) (min j z) = pa) (hpb : cutP f pa.1 x.f2 (max (i - z) 0) (max (j - z) 0) = pb)
    (hl : (joinP pb.1 pa.2 pb.2).1.1.length ≤ 4000) : W K a48.body (E48 mb n i j H) (Q48 H mb bn bs (joinP pb.1 pa.2 pb.2)) := by
  obtain ⟨hr, hM, hx, he, n0, n1, i0, i1, j0, j1, v2, hnode, hn4, l0m, x0, x1, hMs, hH1, s2, st2, k2, gb, lz1, lz2⟩ := id c
  have hls : l0.length ≤ s.1.length := hx.len
  have hol := hr.len
  have hle := hr.le
  have hM2 := c.m2
  have e1 : decide (i ≥ j) = false := decide_eq_false hij
  obtain ⟨q0, q1, q2, q3⟩ := box_loads gb
  have hfn : x.f1 < l0.length := by omega
  have hgn : x.f2 < l0.length := by omega
  obtain ⟨_, _, _, hzo, z1, z2, _⟩ := front hr hx f0 hfn
  obtain ⟨_, _, _, _, y1, y2, _⟩ := front hr hx g0 hgn
  rw [hz] at z1 z2 hzo
  rw [hy] at y1 y2
  obtain ⟨lz3, lz4⟩ := size_load hM2 f0 (show x.f1 < s.2.length by omega)
  rw [hzo] at lz4
  have e4 : (!(x.f0.toList == (⟨#[]⟩ : ByteArray).toList)) = false := by rw [str_empty]; simp [h0]
  have e5 : (x.f3 != 0) = false := by rw [ht]; rfl
  have x2 : (0 ≤ x.f1 ∧ x.f1 < (s.2.length : Int)) = True := eq_true ⟨f0, by omega⟩
  have ha := cut_left hr f s hx he x.f1 (min i z) (min j z) f0 hfn
  rw [hpa] at ha
  have a1 := ha.ex.len
  have hxa := hx.trans ha.ex
  have hb := cut_left hr f pa.1 hxa ha.len x.f2 (max (i - z) 0) (max (j - z) 0) g0 hgn
  rw [hpb] at hb
  have a2 := hb.ex.len
  have hj := join_left hb.len (a := pa.2) (b := pb.2) (by have := ha.lt; omega) hb.lt
  have a3 := hj.ex.len
  have mM := c.apart
  obtain ⟨m0, n0', s0, _, _, _, _, _, _⟩ := hM
  -- the two blocks made ahead
  obtain ⟨H3, hH3⟩ : ∃ H3, H2.new (.cells [.int .i64 z] ⟨0, 3, true⟩ false) = H3 := ⟨_, rfl⟩
  have s3 : H3.size = M + 2 := by rw [← hH3, Hp.size_new, s2]
  obtain ⟨H4, hH4⟩ : ∃ H4, H3.new (.cells [.int .i64 z] ⟨0, 3, true⟩ false) = H4 := ⟨_, rfl⟩
  have s4 : H4.size = M + 3 := by rw [← hH4, Hp.size_new, s3]
  have k4 : Keep H2 H4 := by rw [← hH4, ← hH3]; exact (Keep.new _ _).trans (Keep.new _ _)
  have gb4 : H4.get M = some (.cells (enc55 x) ⟨0, 55, true⟩ false) := by rw [k4.2 M (by omega)]; exact gb
  have gc4 : H4.get (M + 1) = some (.cells [.int .i64 z] ⟨0, 3, true⟩ false) := by rw [← hH4, Hp.get_new, if_neg (by omega), ← hH3, Hp.get_new, s2, if_pos rfl]
  have gd4 : H4.get (M + 2) = some (.cells [.int .i64 z] ⟨0, 3, true⟩ false) := by rw [← hH4, Hp.get_new, s3, if_pos rfl]
  have hheld : ∀ G : Hp, ∀ c, G.get c = some (.cells [.int .i64 z] ⟨0, 3, true⟩ false) → heldAt G c 3 [.int .i64 z] = true := fun G c hG => by unfold heldAt; rw [hG]; simp [sameCs, eqV]
  have b3 := hheld H4 (M + 1) gc4
  have b4 := hheld H4 (M + 2) gd4
  have f1z := fill1 z
  have c52 := K52 (i := i) gc4
  have d52 := K52 (i := j) gd4
  have m4 := hM2.old k4
  have w1 := box_loads gb4
  obtain ⟨H5, bn1, bs1, hc5, m5, t5⟩ := ih H4 mb bn bs s m4 hx he x.f1 (min i z) (min j z) f0 hfn (by omega) (by omega) (by omega) (by omega) (by omega) (by rw [hpa]; omega)
  rw [hpa] at hc5 m5
  have gb5 : H5.get M = some (.cells (enc55 x) ⟨0, 55, true⟩ false) := by rw [t5.keep M (by omega) mM.1 mM.2.1 mM.2.2]; exact gb4
  have gc5 : H5.get (M + 1) = some (.cells [.int .i64 z] ⟨0, 3, true⟩ false) := by rw [t5.keep (M + 1) (by omega) (by omega) (by omega) (by omega)]; exact gc4
  have gd5 : H5.get (M + 2) = some (.cells [.int .i64 z] ⟨0, 3, true⟩ false) := by rw [t5.keep (M + 2) (by omega) (by omega) (by omega) (by omega)]; exact gd4
  have w2 := box_loads gb5
  obtain ⟨H6, bn2, bs2, hc6, m6, t6⟩ := ih H5 mb bn1 bs1 pa.1 m5 hxa ha.len x.f2 (max (i - z) 0) (max (j - z) 0) g0 hgn (by omega) (by omega) (by omega) (by omega) (by omega) (by rw [hpb]; omega)
  rw [hpb] at hc6 m6
  obtain ⟨H7, bn3, bs3, hc7, m7, t7⟩ := K64 m6 hb.len (by omega) (a := pa.2) (b := pb.2) (by have := ha.lt; omega) hb.lt
  have t47 := ((MSt.of k4 mb bn bs).trans t5).trans (t6.trans t7)
  have wi : IntKind.i64.wrap (i - z) = i - z := i64w (by omega) (by omega)
  have wj : IntKind.i64.wrap (j - z) = j - z := i64w (by omega) (by omega)
  have xi : mx2 (.int .i64 (i - z)) (.int .i64 0) = some (.int .i64 (max (i - z) 0)) := by
    have : (if (0 : Int) > i - z then (0 : Int) else i - z) = max (i - z) 0 := by split <;> omega
    show some (Value.int .i64 _) = _
    rw [this]
  have xj : mx2 (.int .i64 (j - z)) (.int .i64 0) = some (.int .i64 (max (j - z) 0)) := by
    have : (if (0 : Int) > j - z then (0 : Int) else j - z) = max (j - z) 0 := by split <;> omega
    show some (Value.int .i64 _) = _
    rw [this]
  let I : Hp → Prop := fun G => G.get M = some (.cells (enc55 x) ⟨0, 55, true⟩ false) ∧ G.get (M + 1) = some (.cells [.int .i64 z] ⟨0, 3, true⟩ false) ∧ G.get (M + 2) = some (.cells [.int .i64 z] ⟨0, 3, true⟩ false)
  have hI4 : I H4 := ⟨gb4, gc4, gd4⟩
  have hI5 : I H5 := ⟨gb5, gc5, gd5⟩
  have hIl : ∀ G : Hp, I G → loadO G (.pointer (some ⟨M, 1, none⟩)) = some (.int .i64 x.f1) ∧ heldAt G (M + 1) 3 [.int .i64 z] = true ∧ heldAt G (M + 2) 3 [.int .i64 z] = true := fun G hG => ⟨(box_loads hG.1).2.1, hheld G _ hG.2.1, hheld G _ hG.2.2⟩
  clear_value I
  rcases hsplit48 hw with ⟨e2, e3⟩ | ⟨e2, e3⟩
  all_goals
    unfold a48
    repeat' (first
        | refine W.seq ?_
        | refine W.wo ?_
        | refine WO.nil ?_
        | (apply WO.ok; (case e => (simp only [go_sem, Nat.reduceEqDiff, Nat.reduceAdd, reduceIte, l0m, x0, hn4, hMs, hH1, st2, e1, e2, lz1, lz2, x1, e3, q0, e4, q3, e5, Nat.zero_add, Nat.mul_one]; first | done | with_reducible rfl)))
        | (apply WO.guardT; (case hj => (simp only [go_sem, Nat.reduceEqDiff, Nat.reduceAdd, reduceIte, l0m, x0, hn4, hMs, hH1, st2, e1, e2, lz1, lz2, x1, e3, q0, e4, q3, e5, Nat.zero_add, Nat.mul_one]; first | done | with_reducible rfl)))
        | refine W.skip ?_
        | refine W.block ?_
        | (apply W.branch; (case e => (simp only [go_sem, Nat.reduceEqDiff, Nat.reduceAdd, reduceIte, l0m, x0, hn4, hMs, hH1, st2, e1, e2, lz1, lz2, x1, e3, q0, e4, q3, e5, Nat.zero_add, Nat.mul_one]; first | done | with_reducible rfl)))
        | with_reducible exact tf
        | with_reducible exact ft
        | intro _)
    refine W.gen (P48 H2 M mb i j) ⟨by (simp only [go_sem, Nat.reduceEqDiff, Nat.reduceAdd, reduceIte]; first | done | with_reducible rfl), by (simp only [go_sem, Nat.reduceEqDiff, Nat.reduceAdd, reduceIte]; first | done | with_reducible rfl), by (simp only [go_sem, Nat.reduceEqDiff, Nat.reduceAdd, reduceIte]; first | done | with_reducible rfl), by (simp only [go_sem, Nat.reduceEqDiff, Nat.reduceAdd, reduceIte]; first | done | with_reducible rfl), by (simp only [go_sem, Nat.reduceEqDiff, Nat.reduceAdd, reduceIte]; first | done | with_reducible rfl), by (simp only [go_sem, Nat.reduceEqDiff, Nat.reduceAdd, reduceIte]; first | done | with_reducible rfl)⟩ ?_
    rintro t ⟨rfl, td, t0, t2, t3, t9⟩
    apply W.wq
    case hg => kernel_rfl
    repeat' (first
        | refine W.seq ?_
        | refine WD.nil ?_
        | (apply WD.ok; (case e => (simp only [go_sem, Nat.reduceEqDiff, Nat.reduceAdd, reduceIte, t0, t2, t3, t9, lz3, lz4, q1, x2, Nat.zero_add, Nat.mul_one]; first | done | with_reducible rfl)); (case hi => first | trivial | (simp only [nx_H]; done)); (case hc => first | rfl | (simp only [eqV, beq_self_eq_true, Bool.and_self, Bool.or_true, Bool.and_true, Option.isSome_some]; done))))
    apply W.wp (H := H4)
    case h =>
      apply preD_read
      case hr => rfl
      case e => (simp only [go_sem, Nat.reduceEqDiff, Nat.reduceAdd, reduceIte, t0]; first | done | with_reducible rfl)
      apply preD_read
      case hr => rfl
      case e => (simp only [go_sem, Nat.reduceEqDiff, Nat.reduceAdd, reduceIte, t9]; first | done | with_reducible rfl)
      apply preD_read
      case hr => rfl
      case e => (simp only [go_sem, Nat.reduceEqDiff, Nat.reduceAdd, reduceIte, q1]; first | done | with_reducible rfl)
      apply preD_read
      case hr => rfl
      case e => (simp only [go_sem, Nat.reduceEqDiff, Nat.reduceAdd, reduceIte, t2]; first | done | with_reducible rfl)
      apply preD_read
      case hr => rfl
      case e => (simp only [go_sem, Nat.reduceEqDiff, Nat.reduceAdd, reduceIte]; first | done | with_reducible rfl)
      apply preD_alloc
      case hr => rfl
      case hc => rfl
      case e => (simp only [go_sem, Nat.reduceEqDiff, Nat.reduceAdd, reduceIte, f1z, s2, hH3]; first | done | with_reducible rfl)
      apply preD_call
      case hr => rfl
      apply preD_read
      case hr => rfl
      case e => (simp only [go_sem, Nat.reduceEqDiff, Nat.reduceAdd, reduceIte, t3]; first | done | with_reducible rfl)
      apply preD_read
      case hr => rfl
      case e => (simp only [go_sem, Nat.reduceEqDiff, Nat.reduceAdd, reduceIte]; first | done | with_reducible rfl)
      apply preD_alloc
      case hr => rfl
      case hc => rfl
      case e => (simp only [go_sem, Nat.reduceEqDiff, Nat.reduceAdd, reduceIte, f1z, s3, hH4]; first | done | with_reducible rfl)
      apply preD_call
      case hr => rfl
      apply preD_call
      case hr => rfl
      apply preD_read
      case hr => rfl
      case e => (simp only [go_sem, Nat.reduceEqDiff, Nat.reduceAdd, reduceIte]; first | done | with_reducible rfl)
      exact preD_nil (by (simp only [go_sem, Nat.reduceEqDiff, Nat.reduceAdd, reduceIte]; first | done | with_reducible rfl))
    refine W.wg (I := I) (by kernel_rfl) (by simp only [nx_H]; exact hI4) ?_
    repeat' (first
        | refine WG.nil ?_
        | (apply WG.act; (case e => (simp only [go_sem, Nat.reduceEqDiff, Nat.reduceAdd, reduceIte, t0, t2, t3, t9, s2, s3, b3, b4, f1z, w1.2.1, c52, d52, hc5]; first | done | with_reducible rfl)); (case hi => first | exact hI4 | (simp only [nx_H]; exact hI4) | exact hI5 | (simp only [nx_H]; exact hI5)); (case hc => rfl))
        | (apply WG.callv; (case e => (simp only [go_sem, Nat.reduceEqDiff, Nat.reduceAdd, reduceIte, t0, t2, t3, t9, s2, s3, b3, b4, f1z, w1.2.1, c52, d52, hc5]; first | done | with_reducible rfl)); (case c => (simp only [go_sem, Nat.reduceEqDiff, Nat.reduceAdd, reduceIte, t0, t2, t3, t9, s2, s3, b3, b4, f1z, w1.2.1, c52, d52, hc5]; first | done | with_reducible rfl)); (case hi => first | exact hI4 | (simp only [nx_H]; exact hI4) | exact hI5 | (simp only [nx_H]; exact hI5)); (case hc => rfl))
        | (apply WG.same; (case e => (simp only [go_sem, Nat.reduceEqDiff, Nat.reduceAdd, reduceIte, t0, t2, t3, t9, s2, s3, b3, b4, f1z, w1.2.1, c52, d52, hc5]; first | done | with_reducible rfl)); (case hi => first | exact hI4 | (simp only [nx_H]; exact hI4) | exact hI5 | (simp only [nx_H]; exact hI5)); (case hv => first | exact hvf | (simp only [eqV, beq_self_eq_true, Bool.and_self]; done)); (case ha => intro G hG; exact ⟨G, by (simp only [go_sem, Nat.reduceEqDiff, Nat.reduceAdd, reduceIte, t0, t2, t3, t9, s2, s3, b3, b4, f1z, w1.2.1, c52, d52, hc5, (hIl G hG).1, (hIl G hG).2.1, (hIl G hG).2.2]; first | done | with_reducible rfl)⟩)))
    repeat' (first
        | refine W.seq ?_
        | refine W.wo ?_
        | refine WO.nil ?_
        | (apply WO.callv; (case e => (simp only [go_sem, Nat.reduceEqDiff, Nat.reduceAdd, reduceIte, t0, t2, t3, t9, w2.2.2.1, wi, wj, xi, xj, hc6, hc7]; first | done | with_reducible rfl)); (case c => (simp only [go_sem, Nat.reduceEqDiff, Nat.reduceAdd, reduceIte, t0, t2, t3, t9, w2.2.2.1, wi, wj, xi, xj, hc6, hc7]; first | done | with_reducible rfl)))
        | (apply WO.ok; (case e => (simp only [go_sem, Nat.reduceEqDiff, Nat.reduceAdd, reduceIte, t0, t2, t3, t9, w2.2.2.1, wi, wj, xi, xj, hc6, hc7]; first | done | with_reducible rfl)))
        | refine W.ret ?_)
    exact ⟨rfl, by (simp only [go_sem, Nat.reduceEqDiff, Nat.reduceAdd, reduceIte, td]; first | done | with_reducible rfl), by (simp only [go_sem, Nat.reduceEqDiff, Nat.reduceAdd, reduceIte]; first | done | with_reducible rfl), bn3, bs3, by simp only [nx_H]; exact m7, by simp only [nx_H]; exact c.ms.trans t47⟩
end
end Go.Proofs.YtehbekgmemebjaaDoorEv
namespace Go.Proofs.YtehbekgmemebjaaDoorEv
open Go Go.RowKit
set_option linter.unusedVariables false
set_option linter.unusedSimpArgs false
attribute [local go_sem] evOp beq_true beq_false List.getElem?_toArray List.getElem?_cons_zero List.getElem?_cons_succ env_tmp env_const env_func env_global nx_get nx_getn nx_H nx_ds nx_df nx_pm get_enter one_ne_zero' zero_ne_one' if_false if_true ite_true ite_false List.getD_cons_zero List.getD_cons_succ Option.map_some Option.map_none Option.bind_some binO unO eqO List.map_toArray List.map_cons List.map_nil Array.append_empty Array.empty_append List.nil_append List.append_nil List.append_toArray List.cons_append ne_eq not_true_eq_false Bool.false_eq_true Bool.not_true Bool.not_false Bool.true_eq_false
theorem K48 {l0 : List S55} {o0 : List Int} (hr : Rope l0 o0) : ∀ f : Nat, IH48 l0 o0 f
  | 0, H, mb, bn, bs, s, hM, hx, he, n, i, j, n0, n1, nf, i0, i1, j0, j1, hl => by omega
  | f + 1, H, mb, bn, bs, s, hM, hx, he, n, i, j, n0, n1, nf, i0, i1, j0, j1, hl => by
    have ih := K48 hr f
    refine C48.of ?_
    have hls : l0.length ≤ s.1.length := hx.len
    have hol := hr.len
    obtain ⟨x, h1, h2, h3, h4, h5, h6⟩ := front hr hx n0 n1
    simp only [cutP] at hl ⊢
    rw [h2, h3] at hl
    rw [h2, h3]
    have hn4 := node_load hM n0 (show n < s.1.length by omega)
    rw [h2] at hn4
    obtain ⟨um, gm⟩ := hM.gm
    have l0m : loadO H (.pointer (some ⟨mb, 0, none⟩)) = some (.slice (some ⟨bn, 0, none⟩) s.1.length s.1.length) := by simp only [loadO, gm]; rfl
    obtain ⟨M, hMs⟩ : ∃ M, H.size = M := ⟨_, rfl⟩
    obtain ⟨H1, hH1⟩ : ∃ H1, H.new (.cells [.string ⟨#[]⟩, .int .i64 0, .int .i64 0, .int .i64 0] ⟨0, 55, true⟩ false) = H1 := ⟨_, rfl⟩
    have s1 : H1.size = M + 1 := by rw [← hH1, Hp.size_new, hMs]
    obtain ⟨H2, hH2⟩ : ∃ H2, H1.put M (.cells (enc55 x) ⟨0, 55, true⟩ false) = H2 := ⟨_, rfl⟩
    have s2 : H2.size = M + 1 := by rw [← hH2, Hp.size_put, s1]
    have st2 : storeO H1 4 (.agg #[.string x.f0, .int .i64 x.f1, .int .i64 x.f2, .int .i64 x.f3]) (.pointer (some ⟨M, 0, none⟩)) = some H2 := by
      rw [← hH2]
      simp only [storeO, ← hH1, Hp.get_new, hMs, if_true]
      simp [Value.cells, isCell, setL, enc55]
    have k2 : Keep H H2 := by rw [← hH2, ← hH1]; exact (Keep.new _ _).put (by omega) _
    have gb : H2.get M = some (.cells (enc55 x) ⟨0, 55, true⟩ false) := by rw [← hH2, Hp.get_put, if_pos rfl]
    obtain ⟨lz1, lz2⟩ := size_load (hM.old k2) n0 (show n < s.2.length by omega)
    rw [h3] at lz2
    have c : CxC l0 o0 H H1 H2 M mb bn bs s n i j x := ⟨hr, hM, hx, he, n0, n1, i0, i1, j0, j1, h5, h6, hn4, l0m, eq_true ⟨n0, by omega⟩, eq_true ⟨n0, by omega⟩, hMs, hH1, s2, st2, k2, gb, lz1, lz2⟩
    by_cases hij : i ≥ j
    · rw [if_pos hij]; exact W48a c hij
    rw [if_neg hij] at hl
    rw [if_neg hij]
    by_cases hw : i = 0 ∧ j = rd o0 n
    · rw [if_pos hw]; exact W48b c hij hw
    rw [if_neg hw] at hl
    rw [if_neg hw]
    cases h6 with
    | leaf h0 e =>
      rw [if_pos h0] at hl
      rw [if_pos h0]
      exact W48c c hij hw h0 e (by simp only [putP, List.length_append, List.length_singleton] at hl; omega)
    | times h0 ht f0 f1 f2 e =>
      rw [if_neg (by omega), if_pos (by omega)] at hl
      rw [if_neg (by omega), if_pos (by omega)]
      obtain ⟨_, _, _, hzo, _, _, _⟩ := front hr hx f0 (show x.f1 < l0.length by omega)
      rw [hzo] at hl ⊢
      by_cases hpq : Int.tdiv i (rd o0 x.f1) = Int.tdiv j (rd o0 x.f1)
      · rw [if_pos hpq] at hl
        rw [if_pos hpq]
        exact W48d c ih nf hij hw h0 ht f0 f1 hpq hl
      · rw [if_neg hpq] at hl
        rw [if_neg hpq]
        exact W48e c ih nf hij hw h0 ht f0 f1 rfl hpq rfl rfl rfl rfl rfl hl
    | pair h0 ht f0 f1 g0 g1 e =>
      rw [if_neg (by omega), if_neg (by omega)] at hl
      rw [if_neg (by omega), if_neg (by omega)]
      obtain ⟨_, _, _, hzo, _, _, _⟩ := front hr hx f0 (show x.f1 < l0.length by omega)
      rw [hzo] at hl ⊢
      exact W48f c ih nf hij hw h0 ht f0 f1 g0 g1 rfl rfl e rfl rfl hl
end Go.Proofs.YtehbekgmemebjaaDoorEv
