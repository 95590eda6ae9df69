import Derived.Test.YtehbekgmemebjaaDoorPvLen
import Derived.Test.YtehbekgmemebjaaDoorEvX
namespace Go.Proofs.YtehbekgmemebjaaDoorEv
open Go Go.RowKit Go.Proofs.YtehbekgmemebjaaDoor.PAll Go.Proofs.YtehbekgmemebjaaDoor.PAll.H Go.Proofs.YtehbekgmemebjaaDoorW.PrintWords Go.Proofs.YtehbekgmemebjaaDoorW.PrintLast Go.Proofs.YtehbekgmemebjaaDoorW.PrintMore
set_option linter.unusedVariables false
set_option linter.unusedSimpArgs false
attribute [local go_sem] evOp beq_true beq_false List.getElem?_toArray List.getElem?_cons_zero List.getElem?_cons_succ env_tmp env_const env_func env_global nx_get nx_getn nx_H nx_ds nx_df nx_pm get_enter one_ne_zero' zero_ne_one' if_false if_true ite_true ite_false List.getD_cons_zero List.getD_cons_succ Option.map_some Option.map_none Option.bind_some binO unO eqO List.map_toArray List.map_cons List.map_nil Array.append_empty Array.empty_append List.nil_append List.append_nil List.append_toArray List.cons_append ne_eq not_true_eq_false Bool.false_eq_true Bool.not_true Bool.not_false Bool.true_eq_false rcv_get rcv_H rcv_ds rcv_df rcv_pm dfr_get dfr_H dfr_ds dfr_df dfr_pm
section
variable {bs : Option Addr} {cp : Nat} {l0 : List S55} {H : Hp}
set_option maxHeartbeats 8000000 in
theorem K31 (hL : Let H) (hA : l0 = [] ∨ ∃ b o sp bc u ro rst, bs = some ⟨b, o, sp⟩ ∧ b < H.size ∧ H.get b = some (.cells bc u ro) ∧ bc.drop o = l0.flatMap enc55 ++ rst) : ∃ H', Keep H H' ∧
    ((∃ out b, lens l0 = some out ∧ H.size ≤ b ∧ b < H'.size ∧ K 31 #[.slice bs l0.length cp] H = some (.ret (.tuple #[.slice (some ⟨b, 0, none⟩) l0.length l0.length, .int .i64 0]) H') ∧ H'.get b = some (.cells (out.map (Value.int .i64)) ⟨0, 3, true⟩ false) ∧ out.length = l0.length ∧ goodL out) ∨
     (lens l0 = none ∧ K 31 #[.slice bs l0.length cp] H = some (.ret (.tuple #[.slice none 0 0, .int .i64 20]) H'))) := by
  obtain ⟨M, hM⟩ : ∃ M, H.size = M := ⟨_, rfl⟩
  obtain ⟨H1, hH1⟩ : ∃ H1, H.new (.cells [.slice none 0 0] ⟨0, 42, true⟩ false) = H1 := ⟨_, rfl⟩
  have hM1 : H1.size = M + 1 := by rw [← hH1, Hp.size_new, hM]
  obtain ⟨H2, hH2⟩ : ∃ H2, H1.new (.cells [.int .i64 0] ⟨0, 23, true⟩ false) = H2 := ⟨_, rfl⟩
  have k2 : Keep H H2 := by rw [← hH2, ← hH1]; exact (Keep.new _ _).trans (Keep.new _ _)
  have hM2 : H2.size = M + 2 := by rw [← hH2, Hp.size_new, hM1]
  have v1 : H2.get M = some (.cells [.slice none 0 0] ⟨0, 42, true⟩ false) := by
    rw [← hH2, ← hH1]; simp only [Hp.get_new, Hp.size_new, hM]; rw [if_neg (by omega)]; simp
  have v2 : H2.get (M + 1) = some (.cells [.int .i64 0] ⟨0, 23, true⟩ false) := by
    rw [← hH2]; simp only [Hp.get_new, hM1]; simp
  obtain ⟨H3, k3, hcase⟩ := K50 (cp := cp) (hL.keep k2) (hA.imp id fun ⟨b, o, sp, bc, u, ro, rst, e1, e2, e3, e4⟩ => ⟨b, o, sp, bc, u, ro, rst, e1, by have := k2.1; omega, (k2.2 b e2).trans e3, e4⟩)
  have w1 : H3.get M = some (.cells [.slice none 0 0] ⟨0, 42, true⟩ false) := (k3.2 M (by omega)).trans v1
  have w2 : H3.get (M + 1) = some (.cells [.int .i64 0] ⟨0, 23, true⟩ false) := (k3.2 (M + 1) (by omega)).trans v2
  rcases hcase with ⟨out, a1, a2, a3, a4, a5, a6⟩ | ⟨a1, a2⟩
  · obtain ⟨H4, hH4⟩ : ∃ H4, H3.put M (.cells [.slice (some ⟨H2.size, 0, none⟩) l0.length l0.length] ⟨0, 42, true⟩ false) = H4 := ⟨_, rfl⟩
    obtain ⟨H5, hH5⟩ : ∃ H5, H4.put (M + 1) (.cells [.int .i64 0] ⟨0, 23, true⟩ false) = H5 := ⟨_, rfl⟩
    have s1 : storeO H3 1 (.slice (some ⟨H2.size, 0, none⟩) l0.length l0.length) (.pointer (some ⟨M, 0, none⟩)) = some H4 := by
      rw [← hH4]; simp only [storeO, w1]; simp [Value.cells, isCell, setL]
    have s2 : storeO H4 1 (.int .i64 0) (.pointer (some ⟨M + 1, 0, none⟩)) = some H5 := by
      rw [← hH5, ← hH4]; simp only [storeO, Hp.get_put]; rw [if_neg (by omega), w2]; simp [Value.cells, isCell, setL]
    have l1 : loadO H5 (.pointer (some ⟨M, 0, none⟩)) = some (.slice (some ⟨H2.size, 0, none⟩) l0.length l0.length) := by
      rw [← hH5, ← hH4]; simp only [loadO, Hp.get_put]; rw [if_neg (by omega)]; simp
    have l2 : loadO H5 (.pointer (some ⟨M + 1, 0, none⟩)) = some (.int .i64 0) := by
      rw [← hH5]; simp only [loadO, Hp.get_put]; simp
    refine ⟨H5, ?_, .inl ⟨out, H2.size, a1, by rw [hM2, hM]; omega, by rw [← hH5, ← hH4]; exact a4, K_call a31_eq (by simp [a31]) ?_, ?_, a5, a6⟩⟩
    · rw [← hH5, ← hH4]; exact ((k2.trans k3).put (by omega) _).put (by omega) _
    · unfold a31
      repeat' (first
          | refine W.seq ?_
          | refine W.wo ?_
          | refine WO.nil ?_
          | (apply WO.callv; (case e => (simp only [go_sem, Nat.reduceEqDiff, Nat.reduceAdd, reduceIte, hM, hH1, hM1, hH2, a2, s1, s2]; first | done | with_reducible rfl)); (case c => (simp only [go_sem, Nat.reduceEqDiff, Nat.reduceAdd, reduceIte, hM, hH1, hM1, hH2, a2, s1, s2]; first | done | with_reducible rfl)))
          | (apply WO.panicv; (case e => (simp only [go_sem, Nat.reduceEqDiff, Nat.reduceAdd, reduceIte, hM, hH1, hM1, hH2, a2, s1, s2]; first | done | with_reducible rfl)))
          | (apply WO.ok; (case e => (simp only [go_sem, Nat.reduceEqDiff, Nat.reduceAdd, reduceIte, hM, hH1, hM1, hH2, a2, s1, s2]; first | done | with_reducible rfl)))
          | (apply WO.guardT; (case hj => (simp only [go_sem, Nat.reduceEqDiff, Nat.reduceAdd, reduceIte, hM, hH1, hM1, hH2, a2, s1, s2]; first | done | with_reducible rfl)))
          | (apply WO.guardF; (case hj => (simp only [go_sem, Nat.reduceEqDiff, Nat.reduceAdd, reduceIte, hM, hH1, hM1, hH2, a2, s1, s2]; first | done | with_reducible rfl)))
          | (apply WO.guardU; (case hj => (simp only [go_sem, Nat.reduceEqDiff, Nat.reduceAdd, reduceIte, hM, hH1, hM1, hH2, a2, s1, s2]; first | done | with_reducible rfl)))
          | refine W.skip ?_
          | refine W.ret ?_
          | refine W.exit ?_
          | refine W.block ?_
          | (apply W.branch; (case e => (simp only [go_sem, Nat.reduceEqDiff, Nat.reduceAdd, reduceIte, hM, hH1, hM1, hH2, a2, s1, s2]; first | done | with_reducible rfl)))
          | refine WD.nil ?_
          | (apply WD.callv; (case e => (simp only [go_sem, Nat.reduceEqDiff, Nat.reduceAdd, reduceIte, hM, hH1, hM1, hH2, a2, s1, s2]; first | done | with_reducible rfl)); (case c => (simp only [go_sem, Nat.reduceEqDiff, Nat.reduceAdd, reduceIte, hM, hH1, hM1, hH2, a2, s1, s2]; first | done | with_reducible rfl)); (case hi => first | trivial | (simp only [nx_H]; done)); (case hc => rfl))
          | (apply WD.ok; (case e => (simp only [go_sem, Nat.reduceEqDiff, Nat.reduceAdd, reduceIte, hM, hH1, hM1, hH2, a2, s1, s2]; first | done | with_reducible rfl)); (case hi => first | trivial | (simp only [nx_H]; done)); (case hc => first | rfl | (simp only [eqV, beq_self_eq_true, Bool.and_self, Bool.or_true, Bool.and_true, Option.isSome_some]; done)))
          | (apply WD.guardT; (case hj => (simp only [go_sem, Nat.reduceEqDiff, Nat.reduceAdd, reduceIte, hM, hH1, hM1, hH2, a2, s1, s2]; first | done | with_reducible rfl)); (case hi => first | trivial | (simp only [nx_H]; done)))
          | (apply WD.guardF; (case hj => (simp only [go_sem, Nat.reduceEqDiff, Nat.reduceAdd, reduceIte, hM, hH1, hM1, hH2, a2, s1, s2]; first | done | with_reducible rfl)); (case hi => first | trivial | (simp only [nx_H]; done)))
          | (apply WD.guardU; (case hj => (simp only [go_sem, Nat.reduceEqDiff, Nat.reduceAdd, reduceIte, hM, hH1, hM1, hH2, a2, s1, s2]; first | done | with_reducible rfl)); (case hi => first | trivial | (simp only [nx_H]; done)))
          | refine WS.seq ?_
          | refine WS.wo ?_
          | refine WS.skip ?_
          | refine WS.ret ?_
          | (apply WS.branch; (case e => (simp only [go_sem, Nat.reduceEqDiff, Nat.reduceAdd, reduceIte, hM, hH1, hM1, hH2, a2, s1, s2]; first | done | with_reducible rfl)))
          | (apply WO.callpv; (case e => (simp only [go_sem, Nat.reduceEqDiff, Nat.reduceAdd, reduceIte, hM, hH1, hM1, hH2, a2, s1, s2]; first | done | with_reducible rfl)); (case c => (simp only [go_sem, Nat.reduceEqDiff, Nat.reduceAdd, reduceIte, hM, hH1, hM1, hH2, a2, s1, s2]; first | done | with_reducible rfl)))
          | (apply WO.recover1; (case hd => (simp only [go_sem, Nat.reduceEqDiff, Nat.reduceAdd, reduceIte, hM, hH1, hM1, hH2, a2, s1, s2]; first | done | with_reducible rfl)); (case hp => (simp only [go_sem, Nat.reduceEqDiff, Nat.reduceAdd, reduceIte, hM, hH1, hM1, hH2, a2, s1, s2]; first | done | with_reducible rfl)))
          | (apply WO.recover0; (case hd => (simp only [go_sem, Nat.reduceEqDiff, Nat.reduceAdd, reduceIte, hM, hH1, hM1, hH2, a2, s1, s2]; first | done | with_reducible rfl)); (case hp => (simp only [go_sem, Nat.reduceEqDiff, Nat.reduceAdd, reduceIte, hM, hH1, hM1, hH2, a2, s1, s2]; first | done | with_reducible rfl)))
          | (apply WO.defv; (case e => (simp only [go_sem, Nat.reduceEqDiff, Nat.reduceAdd, reduceIte, hM, hH1, hM1, hH2, a2, s1, s2]; first | done | with_reducible rfl)); (case hd => (simp only [go_sem, Nat.reduceEqDiff, Nat.reduceAdd, reduceIte, hM, hH1, hM1, hH2, a2, s1, s2]; first | done | with_reducible rfl)))
          | with_reducible exact tf
          | with_reducible exact ft
          | intro _)
      refine leave_one (f := 49) (args := #[.pointer (some ⟨M, 0, none⟩), .pointer (some ⟨M + 1, 0, none⟩)]) (by (simp only [go_sem, Nat.reduceEqDiff, Nat.reduceAdd, reduceIte]; first | done | with_reducible rfl)) a49_eq (by simp [a49]) rfl ?_
      unfold a49
      repeat' (first
          | refine W.seq ?_
          | refine W.wo ?_
          | refine WO.nil ?_
          | (apply WO.callv; (case e => (simp only [go_sem, Nat.reduceEqDiff, Nat.reduceAdd, reduceIte]; first | done | with_reducible rfl)); (case c => (simp only [go_sem, Nat.reduceEqDiff, Nat.reduceAdd, reduceIte]; first | done | with_reducible rfl)))
          | (apply WO.panicv; (case e => (simp only [go_sem, Nat.reduceEqDiff, Nat.reduceAdd, reduceIte]; first | done | with_reducible rfl)))
          | (apply WO.ok; (case e => (simp only [go_sem, Nat.reduceEqDiff, Nat.reduceAdd, reduceIte]; first | done | with_reducible rfl)))
          | (apply WO.guardT; (case hj => (simp only [go_sem, Nat.reduceEqDiff, Nat.reduceAdd, reduceIte]; first | done | with_reducible rfl)))
          | (apply WO.guardF; (case hj => (simp only [go_sem, Nat.reduceEqDiff, Nat.reduceAdd, reduceIte]; first | done | with_reducible rfl)))
          | (apply WO.guardU; (case hj => (simp only [go_sem, Nat.reduceEqDiff, Nat.reduceAdd, reduceIte]; first | done | with_reducible rfl)))
          | refine W.skip ?_
          | refine W.ret ?_
          | refine W.exit ?_
          | refine W.block ?_
          | (apply W.branch; (case e => (simp only [go_sem, Nat.reduceEqDiff, Nat.reduceAdd, reduceIte]; first | done | with_reducible rfl)))
          | refine WD.nil ?_
          | (apply WD.callv; (case e => (simp only [go_sem, Nat.reduceEqDiff, Nat.reduceAdd, reduceIte]; first | done | with_reducible rfl)); (case c => (simp only [go_sem, Nat.reduceEqDiff, Nat.reduceAdd, reduceIte]; first | done | with_reducible rfl)); (case hi => first | trivial | (simp only [nx_H]; done)); (case hc => rfl))
          | (apply WD.ok; (case e => (simp only [go_sem, Nat.reduceEqDiff, Nat.reduceAdd, reduceIte]; first | done | with_reducible rfl)); (case hi => first | trivial | (simp only [nx_H]; done)); (case hc => first | rfl | (simp only [eqV, beq_self_eq_true, Bool.and_self, Bool.or_true, Bool.and_true, Option.isSome_some]; done)))
          | (apply WD.guardT; (case hj => (simp only [go_sem, Nat.reduceEqDiff, Nat.reduceAdd, reduceIte]; first | done | with_reducible rfl)); (case hi => first | trivial | (simp only [nx_H]; done)))
          | (apply WD.guardF; (case hj => (simp only [go_sem, Nat.reduceEqDiff, Nat.reduceAdd, reduceIte]; first | done | with_reducible rfl)); (case hi => first | trivial | (simp only [nx_H]; done)))
          | (apply WD.guardU; (case hj => (simp only [go_sem, Nat.reduceEqDiff, Nat.reduceAdd, reduceIte]; first | done | with_reducible rfl)); (case hi => first | trivial | (simp only [nx_H]; done)))
          | refine WS.seq ?_
          | refine WS.wo ?_
          | refine WS.skip ?_
          | refine WS.ret ?_
          | (apply WS.branch; (case e => (simp only [go_sem, Nat.reduceEqDiff, Nat.reduceAdd, reduceIte]; first | done | with_reducible rfl)))
          | (apply WO.callpv; (case e => (simp only [go_sem, Nat.reduceEqDiff, Nat.reduceAdd, reduceIte]; first | done | with_reducible rfl)); (case c => (simp only [go_sem, Nat.reduceEqDiff, Nat.reduceAdd, reduceIte]; first | done | with_reducible rfl)))
          | (apply WO.recover1; (case hd => (simp only [go_sem, Nat.reduceEqDiff, Nat.reduceAdd, reduceIte]; first | done | with_reducible rfl)); (case hp => (simp only [go_sem, Nat.reduceEqDiff, Nat.reduceAdd, reduceIte]; first | done | with_reducible rfl)))
          | (apply WO.recover0; (case hd => (simp only [go_sem, Nat.reduceEqDiff, Nat.reduceAdd, reduceIte]; first | done | with_reducible rfl)); (case hp => (simp only [go_sem, Nat.reduceEqDiff, Nat.reduceAdd, reduceIte]; first | done | with_reducible rfl)))
          | (apply WO.defv; (case e => (simp only [go_sem, Nat.reduceEqDiff, Nat.reduceAdd, reduceIte]; first | done | with_reducible rfl)); (case hd => (simp only [go_sem, Nat.reduceEqDiff, Nat.reduceAdd, reduceIte]; first | done | with_reducible rfl)))
          | with_reducible exact tf
          | with_reducible exact ft
          | intro _)
      exact ⟨.inl rfl, by (simp only [go_sem, Nat.reduceEqDiff, Nat.reduceAdd, reduceIte]; first | done | with_reducible rfl), .inl (by (simp only [go_sem, Nat.reduceEqDiff, Nat.reduceAdd, reduceIte]; first | done | with_reducible rfl)), by (simp only [go_sem, Nat.reduceEqDiff, Nat.reduceAdd, reduceIte]; first | done | with_reducible rfl), res2cH (by (simp only [go_sem, Nat.reduceEqDiff, Nat.reduceAdd, reduceIte, l1]; first | done | with_reducible rfl)) (by (simp only [go_sem, Nat.reduceEqDiff, Nat.reduceAdd, reduceIte, l2]; first | done | with_reducible rfl))⟩
    · rw [← hH5, ← hH4]; simp only [Hp.get_put]; rw [if_neg (by omega), if_neg (by omega)]; exact a3
  · obtain ⟨H3', hH3'⟩ : ∃ H3', H3.new (.cells [] ⟨0, 79, true⟩ false) = H3' := ⟨_, rfl⟩
    have hM3 := k3.1
    have x1 : H3'.get M = some (.cells [.slice none 0 0] ⟨0, 42, true⟩ false) := by
      rw [← hH3', Hp.get_new, if_neg (by omega)]; exact w1
    have x2 : H3'.get (M + 1) = some (.cells [.int .i64 0] ⟨0, 23, true⟩ false) := by
      rw [← hH3', Hp.get_new, if_neg (by omega)]; exact w2
    have s0 : storeO H3' 0 (.agg #[]) (.pointer (some ⟨H3.size, 0, none⟩)) = some (H3'.put H3.size (.cells [] ⟨0, 79, true⟩ false)) := by
      rw [← hH3']; simp only [storeO, Hp.get_new]; simp [Value.cells, setL]
    obtain ⟨H3q, hH3q⟩ : ∃ H3q, H3'.put H3.size (.cells [] ⟨0, 79, true⟩ false) = H3q := ⟨_, rfl⟩
    rw [hH3q] at s0
    have y1 : H3q.get M = some (.cells [.slice none 0 0] ⟨0, 42, true⟩ false) := by
      rw [← hH3q, Hp.get_put, if_neg (by omega)]; exact x1
    have y2 : H3q.get (M + 1) = some (.cells [.int .i64 0] ⟨0, 23, true⟩ false) := by
      rw [← hH3q, Hp.get_put, if_neg (by omega)]; exact x2
    obtain ⟨H4, hH4⟩ : ∃ H4, H3q.put M (.cells [.slice none 0 0] ⟨0, 42, true⟩ false) = H4 := ⟨_, rfl⟩
    obtain ⟨H5, hH5⟩ : ∃ H5, H4.put (M + 1) (.cells [.int .i64 20] ⟨0, 23, true⟩ false) = H5 := ⟨_, rfl⟩
    have s1 : storeO H3q 1 (.slice none 0 0) (.pointer (some ⟨M, 0, none⟩)) = some H4 := by
      rw [← hH4]; simp only [storeO, y1]; simp [Value.cells, isCell, setL]
    have s2 : storeO H4 1 (.int .i64 20) (.pointer (some ⟨M + 1, 0, none⟩)) = some H5 := by
      rw [← hH5, ← hH4]; simp only [storeO, Hp.get_put]; rw [if_neg (by omega), y2]; simp [Value.cells, isCell, setL]
    have l1 : loadO H5 (.pointer (some ⟨M, 0, none⟩)) = some (.slice none 0 0) := by
      rw [← hH5, ← hH4]; simp only [loadO, Hp.get_put]; rw [if_neg (by omega)]; simp
    have l2 : loadO H5 (.pointer (some ⟨M + 1, 0, none⟩)) = some (.int .i64 20) := by
      rw [← hH5]; simp only [loadO, Hp.get_put]; simp
    refine ⟨H5, ?_, .inr ⟨a1, K_call a31_eq (by simp [a31]) ?_⟩⟩
    · rw [← hH5, ← hH4, ← hH3q, ← hH3']; exact ((((k2.trans k3).trans (Keep.new _ _)).put (by omega) _).put (by omega) _).put (by omega) _
    · unfold a31
      repeat' (first
          | refine W.seq ?_
          | refine W.wo ?_
          | refine WO.nil ?_
          | (apply WO.callv; (case e => (simp only [go_sem, Nat.reduceEqDiff, Nat.reduceAdd, reduceIte, hM, hH1, hM1, hH2, a2]; first | done | with_reducible rfl)); (case c => (simp only [go_sem, Nat.reduceEqDiff, Nat.reduceAdd, reduceIte, hM, hH1, hM1, hH2, a2]; first | done | with_reducible rfl)))
          | (apply WO.panicv; (case e => (simp only [go_sem, Nat.reduceEqDiff, Nat.reduceAdd, reduceIte, hM, hH1, hM1, hH2, a2]; first | done | with_reducible rfl)))
          | (apply WO.ok; (case e => (simp only [go_sem, Nat.reduceEqDiff, Nat.reduceAdd, reduceIte, hM, hH1, hM1, hH2, a2]; first | done | with_reducible rfl)))
          | (apply WO.guardT; (case hj => (simp only [go_sem, Nat.reduceEqDiff, Nat.reduceAdd, reduceIte, hM, hH1, hM1, hH2, a2]; first | done | with_reducible rfl)))
          | (apply WO.guardF; (case hj => (simp only [go_sem, Nat.reduceEqDiff, Nat.reduceAdd, reduceIte, hM, hH1, hM1, hH2, a2]; first | done | with_reducible rfl)))
          | (apply WO.guardU; (case hj => (simp only [go_sem, Nat.reduceEqDiff, Nat.reduceAdd, reduceIte, hM, hH1, hM1, hH2, a2]; first | done | with_reducible rfl)))
          | refine W.skip ?_
          | refine W.ret ?_
          | refine W.exit ?_
          | refine W.block ?_
          | (apply W.branch; (case e => (simp only [go_sem, Nat.reduceEqDiff, Nat.reduceAdd, reduceIte, hM, hH1, hM1, hH2, a2]; first | done | with_reducible rfl)))
          | refine WD.nil ?_
          | (apply WD.callv; (case e => (simp only [go_sem, Nat.reduceEqDiff, Nat.reduceAdd, reduceIte, hM, hH1, hM1, hH2, a2]; first | done | with_reducible rfl)); (case c => (simp only [go_sem, Nat.reduceEqDiff, Nat.reduceAdd, reduceIte, hM, hH1, hM1, hH2, a2]; first | done | with_reducible rfl)); (case hi => first | trivial | (simp only [nx_H]; done)); (case hc => rfl))
          | (apply WD.ok; (case e => (simp only [go_sem, Nat.reduceEqDiff, Nat.reduceAdd, reduceIte, hM, hH1, hM1, hH2, a2]; first | done | with_reducible rfl)); (case hi => first | trivial | (simp only [nx_H]; done)); (case hc => first | rfl | (simp only [eqV, beq_self_eq_true, Bool.and_self, Bool.or_true, Bool.and_true, Option.isSome_some]; done)))
          | (apply WD.guardT; (case hj => (simp only [go_sem, Nat.reduceEqDiff, Nat.reduceAdd, reduceIte, hM, hH1, hM1, hH2, a2]; first | done | with_reducible rfl)); (case hi => first | trivial | (simp only [nx_H]; done)))
          | (apply WD.guardF; (case hj => (simp only [go_sem, Nat.reduceEqDiff, Nat.reduceAdd, reduceIte, hM, hH1, hM1, hH2, a2]; first | done | with_reducible rfl)); (case hi => first | trivial | (simp only [nx_H]; done)))
          | (apply WD.guardU; (case hj => (simp only [go_sem, Nat.reduceEqDiff, Nat.reduceAdd, reduceIte, hM, hH1, hM1, hH2, a2]; first | done | with_reducible rfl)); (case hi => first | trivial | (simp only [nx_H]; done)))
          | refine WS.seq ?_
          | refine WS.wo ?_
          | refine WS.skip ?_
          | refine WS.ret ?_
          | (apply WS.branch; (case e => (simp only [go_sem, Nat.reduceEqDiff, Nat.reduceAdd, reduceIte, hM, hH1, hM1, hH2, a2]; first | done | with_reducible rfl)))
          | (apply WO.callpv; (case e => (simp only [go_sem, Nat.reduceEqDiff, Nat.reduceAdd, reduceIte, hM, hH1, hM1, hH2, a2]; first | done | with_reducible rfl)); (case c => (simp only [go_sem, Nat.reduceEqDiff, Nat.reduceAdd, reduceIte, hM, hH1, hM1, hH2, a2]; first | done | with_reducible rfl)))
          | (apply WO.recover1; (case hd => (simp only [go_sem, Nat.reduceEqDiff, Nat.reduceAdd, reduceIte, hM, hH1, hM1, hH2, a2]; first | done | with_reducible rfl)); (case hp => (simp only [go_sem, Nat.reduceEqDiff, Nat.reduceAdd, reduceIte, hM, hH1, hM1, hH2, a2]; first | done | with_reducible rfl)))
          | (apply WO.recover0; (case hd => (simp only [go_sem, Nat.reduceEqDiff, Nat.reduceAdd, reduceIte, hM, hH1, hM1, hH2, a2]; first | done | with_reducible rfl)); (case hp => (simp only [go_sem, Nat.reduceEqDiff, Nat.reduceAdd, reduceIte, hM, hH1, hM1, hH2, a2]; first | done | with_reducible rfl)))
          | (apply WO.defv; (case e => (simp only [go_sem, Nat.reduceEqDiff, Nat.reduceAdd, reduceIte, hM, hH1, hM1, hH2, a2]; first | done | with_reducible rfl)); (case hd => (simp only [go_sem, Nat.reduceEqDiff, Nat.reduceAdd, reduceIte, hM, hH1, hM1, hH2, a2]; first | done | with_reducible rfl)))
          | with_reducible exact tf
          | with_reducible exact ft
          | intro _)
      refine leave_one (f := 49) (args := #[.pointer (some ⟨M, 0, none⟩), .pointer (some ⟨M + 1, 0, none⟩)]) (by (simp only [go_sem, Nat.reduceEqDiff, Nat.reduceAdd, reduceIte]; first | done | with_reducible rfl)) a49_eq (by simp [a49]) rfl ?_
      unfold a49
      repeat' (first
          | refine W.seq ?_
          | refine W.wo ?_
          | refine WO.nil ?_
          | (apply WO.callv; (case e => (simp only [go_sem, Nat.reduceEqDiff, Nat.reduceAdd, reduceIte, beq_self_eq_true, hH3', s0, hH3q, s1, s2]; first | done | with_reducible rfl)); (case c => (simp only [go_sem, Nat.reduceEqDiff, Nat.reduceAdd, reduceIte, beq_self_eq_true, hH3', s0, hH3q, s1, s2]; first | done | with_reducible rfl)))
          | (apply WO.panicv; (case e => (simp only [go_sem, Nat.reduceEqDiff, Nat.reduceAdd, reduceIte, beq_self_eq_true, hH3', s0, hH3q, s1, s2]; first | done | with_reducible rfl)))
          | (apply WO.ok; (case e => (simp only [go_sem, Nat.reduceEqDiff, Nat.reduceAdd, reduceIte, beq_self_eq_true, hH3', s0, hH3q, s1, s2]; first | done | with_reducible rfl)))
          | (apply WO.guardT; (case hj => (simp only [go_sem, Nat.reduceEqDiff, Nat.reduceAdd, reduceIte, beq_self_eq_true, hH3', s0, hH3q, s1, s2]; first | done | with_reducible rfl)))
          | (apply WO.guardF; (case hj => (simp only [go_sem, Nat.reduceEqDiff, Nat.reduceAdd, reduceIte, beq_self_eq_true, hH3', s0, hH3q, s1, s2]; first | done | with_reducible rfl)))
          | (apply WO.guardU; (case hj => (simp only [go_sem, Nat.reduceEqDiff, Nat.reduceAdd, reduceIte, beq_self_eq_true, hH3', s0, hH3q, s1, s2]; first | done | with_reducible rfl)))
          | refine W.skip ?_
          | refine W.ret ?_
          | refine W.exit ?_
          | refine W.block ?_
          | (apply W.branch; (case e => (simp only [go_sem, Nat.reduceEqDiff, Nat.reduceAdd, reduceIte, beq_self_eq_true, hH3', s0, hH3q, s1, s2]; first | done | with_reducible rfl)))
          | refine WD.nil ?_
          | (apply WD.callv; (case e => (simp only [go_sem, Nat.reduceEqDiff, Nat.reduceAdd, reduceIte, beq_self_eq_true, hH3', s0, hH3q, s1, s2]; first | done | with_reducible rfl)); (case c => (simp only [go_sem, Nat.reduceEqDiff, Nat.reduceAdd, reduceIte, beq_self_eq_true, hH3', s0, hH3q, s1, s2]; first | done | with_reducible rfl)); (case hi => first | trivial | (simp only [nx_H]; done)); (case hc => rfl))
          | (apply WD.ok; (case e => (simp only [go_sem, Nat.reduceEqDiff, Nat.reduceAdd, reduceIte, beq_self_eq_true, hH3', s0, hH3q, s1, s2]; first | done | with_reducible rfl)); (case hi => first | trivial | (simp only [nx_H]; done)); (case hc => first | rfl | (simp only [eqV, beq_self_eq_true, Bool.and_self, Bool.or_true, Bool.and_true, Option.isSome_some]; done)))
          | (apply WD.guardT; (case hj => (simp only [go_sem, Nat.reduceEqDiff, Nat.reduceAdd, reduceIte, beq_self_eq_true, hH3', s0, hH3q, s1, s2]; first | done | with_reducible rfl)); (case hi => first | trivial | (simp only [nx_H]; done)))
          | (apply WD.guardF; (case hj => (simp only [go_sem, Nat.reduceEqDiff, Nat.reduceAdd, reduceIte, beq_self_eq_true, hH3', s0, hH3q, s1, s2]; first | done | with_reducible rfl)); (case hi => first | trivial | (simp only [nx_H]; done)))
          | (apply WD.guardU; (case hj => (simp only [go_sem, Nat.reduceEqDiff, Nat.reduceAdd, reduceIte, beq_self_eq_true, hH3', s0, hH3q, s1, s2]; first | done | with_reducible rfl)); (case hi => first | trivial | (simp only [nx_H]; done)))
          | refine WS.seq ?_
          | refine WS.wo ?_
          | refine WS.skip ?_
          | refine WS.ret ?_
          | (apply WS.branch; (case e => (simp only [go_sem, Nat.reduceEqDiff, Nat.reduceAdd, reduceIte, beq_self_eq_true, hH3', s0, hH3q, s1, s2]; first | done | with_reducible rfl)))
          | (apply WO.callpv; (case e => (simp only [go_sem, Nat.reduceEqDiff, Nat.reduceAdd, reduceIte, beq_self_eq_true, hH3', s0, hH3q, s1, s2]; first | done | with_reducible rfl)); (case c => (simp only [go_sem, Nat.reduceEqDiff, Nat.reduceAdd, reduceIte, beq_self_eq_true, hH3', s0, hH3q, s1, s2]; first | done | with_reducible rfl)))
          | (apply WO.recover1; (case hd => (simp only [go_sem, Nat.reduceEqDiff, Nat.reduceAdd, reduceIte, beq_self_eq_true, hH3', s0, hH3q, s1, s2]; first | done | with_reducible rfl)); (case hp => (simp only [go_sem, Nat.reduceEqDiff, Nat.reduceAdd, reduceIte, beq_self_eq_true, hH3', s0, hH3q, s1, s2]; first | done | with_reducible rfl)))
          | (apply WO.recover0; (case hd => (simp only [go_sem, Nat.reduceEqDiff, Nat.reduceAdd, reduceIte, beq_self_eq_true, hH3', s0, hH3q, s1, s2]; first | done | with_reducible rfl)); (case hp => (simp only [go_sem, Nat.reduceEqDiff, Nat.reduceAdd, reduceIte, beq_self_eq_true, hH3', s0, hH3q, s1, s2]; first | done | with_reducible rfl)))
          | (apply WO.defv; (case e => (simp only [go_sem, Nat.reduceEqDiff, Nat.reduceAdd, reduceIte, beq_self_eq_true, hH3', s0, hH3q, s1, s2]; first | done | with_reducible rfl)); (case hd => (simp only [go_sem, Nat.reduceEqDiff, Nat.reduceAdd, reduceIte, beq_self_eq_true, hH3', s0, hH3q, s1, s2]; first | done | with_reducible rfl)))
          | with_reducible exact tf
          | with_reducible exact ft
          | intro _)
      exact ⟨.inl rfl, by (simp only [go_sem, Nat.reduceEqDiff, Nat.reduceAdd, reduceIte]; first | done | with_reducible rfl), .inr ⟨_, by (simp only [go_sem, Nat.reduceEqDiff, Nat.reduceAdd, reduceIte]; first | done | with_reducible rfl)⟩, by (simp only [go_sem, Nat.reduceEqDiff, Nat.reduceAdd, reduceIte]; first | done | with_reducible rfl), res2cH (by (simp only [go_sem, Nat.reduceEqDiff, Nat.reduceAdd, reduceIte, l1]; first | done | with_reducible rfl)) (by (simp only [go_sem, Nat.reduceEqDiff, Nat.reduceAdd, reduceIte, l2]; first | done | with_reducible rfl))⟩
end
end Go.Proofs.YtehbekgmemebjaaDoorEv
