import Derived.Test.YtehbekgmemebjaaDoorEvCode
import Derived.Test.YtehbekgmemebjaaDoorExtK
import Derived.Test.YtehbekgmemebjaaDoorPvK0
namespace Go.Proofs.YtehbekgmemebjaaDoorEv
open Go Go.RowKit Go.Proofs.YtehbekgmemebjaaDoor.PAll Go.Proofs.YtehbekgmemebjaaDoor.PAll.H Go.Proofs.YtehbekgmemebjaaDoorW.PrintWords Go.Proofs.YtehbekgmemebjaaDoorW.PrintLast Go.Proofs.YtehbekgmemebjaaDoorW.PrintMore
set_option linter.unusedVariables false
set_option linter.unusedSimpArgs false
attribute [local go_sem] evOp beq_true beq_false List.getElem?_toArray List.getElem?_cons_zero List.getElem?_cons_succ env_tmp env_const env_func env_global nx_get nx_getn nx_H nx_ds nx_df nx_pm get_enter one_ne_zero' zero_ne_one' if_false if_true ite_true ite_false List.getD_cons_zero List.getD_cons_succ Option.map_some Option.map_none Option.bind_some binO unO eqO List.map_toArray List.map_cons List.map_nil Array.append_empty Array.empty_append List.nil_append List.append_nil List.append_toArray List.cons_append ne_eq not_true_eq_false Bool.false_eq_true Bool.not_true Bool.not_false Bool.true_eq_false
section
theorem GK_call {xq : Caller} (hxq : ∀ f a H, ¬ (f = 13 ∨ f = 20) → xq f a H = none) {f : Nat} {args : Array Value} {H : Hp} {fn : AFunc} {r : CR} (hf : compFunc Tryd.prog [0] f = some fn) (hn : ¬ fn.ntmps < args.size)
    (h : W (lim xq (compFunc Tryd.prog [0])) fn.body { t := enterT 0 args.toList .nil, H, ds := [], df := false, pm := none } fun ex s => match ex with
      | .normal | .ret => leave (lim xq (compFunc Tryd.prog [0])) (compFunc Tryd.prog [0]) fn.results s.ds none s = some r
      | .pan v => leave (lim xq (compFunc Tryd.prog [0])) (compFunc Tryd.prog [0]) fn.results s.ds (some v) s = some r
      | .exit _ => False) (hx : ¬ (f = 13 ∨ f = 20) := by decide) : (lim xq (compFunc Tryd.prog [0])) f args H = some r := lim_call (.inl (hxq _ _ _ hx)) hf hn h
theorem GK66 {xq : Caller} (hxq : ∀ f a H, ¬ (f = 13 ∨ f = 20) → xq f a H = none) (k i : Int) (p : Value) (H : Hp) (hp : loadO H p = some (.int .i64 i)) : (lim xq (compFunc Tryd.prog [0])) 66 #[.int .i64 k, p] H = some (.ret (.bool (decide (0 ≤ k) && decide (k < i))) H) := by
  refine GK_call hxq a66_eq (by simp [a66]) ?_
  unfold a66
  by_cases h1 : k ≥ 0
  · have d1 : decide (k ≥ 0) = true := decide_eq_true h1
    have d2 : decide (0 ≤ k) = true := d1
    rw [d2, Bool.true_and]
    repeat' (first
        | refine W.seq ?_
        | refine W.wo ?_
        | refine WO.nil ?_
        | (apply WO.callv; (case e => (simp only [go_sem, Nat.reduceEqDiff, Nat.reduceAdd, reduceIte, hp, d1]; first | done | with_reducible rfl)); (case c => (simp only [go_sem, Nat.reduceEqDiff, Nat.reduceAdd, reduceIte, hp, d1]; first | done | with_reducible rfl)))
        | (apply WO.panicv; (case e => (simp only [go_sem, Nat.reduceEqDiff, Nat.reduceAdd, reduceIte, hp, d1]; first | done | with_reducible rfl)))
        | (apply WO.ok; (case e => (simp only [go_sem, Nat.reduceEqDiff, Nat.reduceAdd, reduceIte, hp, d1]; first | done | with_reducible rfl)))
        | (apply WO.guardT; (case hj => (simp only [go_sem, Nat.reduceEqDiff, Nat.reduceAdd, reduceIte, hp, d1]; first | done | with_reducible rfl)))
        | (apply WO.guardF; (case hj => (simp only [go_sem, Nat.reduceEqDiff, Nat.reduceAdd, reduceIte, hp, d1]; first | done | with_reducible rfl)))
        | (apply WO.guardU; (case hj => (simp only [go_sem, Nat.reduceEqDiff, Nat.reduceAdd, reduceIte, hp, d1]; first | done | with_reducible rfl)))
        | refine W.skip ?_
        | refine W.ret ?_
        | refine W.exit ?_
        | refine W.block ?_
        | (apply W.branch; (case e => (simp only [go_sem, Nat.reduceEqDiff, Nat.reduceAdd, reduceIte, hp, d1]; first | done | with_reducible rfl)))
        | refine WD.nil ?_
        | (apply WD.callv; (case e => (simp only [go_sem, Nat.reduceEqDiff, Nat.reduceAdd, reduceIte, hp, d1]; first | done | with_reducible rfl)); (case c => (simp only [go_sem, Nat.reduceEqDiff, Nat.reduceAdd, reduceIte, hp, d1]; first | done | with_reducible rfl)); (case hi => first | trivial | (simp only [nx_H]; done)); (case hc => rfl))
        | (apply WD.ok; (case e => (simp only [go_sem, Nat.reduceEqDiff, Nat.reduceAdd, reduceIte, hp, d1]; first | done | with_reducible rfl)); (case hi => first | trivial | (simp only [nx_H]; done)); (case hc => first | rfl | (simp only [eqV, beq_self_eq_true, Bool.and_self, Bool.or_true, Bool.and_true, Option.isSome_some]; done)))
        | (apply WD.guardT; (case hj => (simp only [go_sem, Nat.reduceEqDiff, Nat.reduceAdd, reduceIte, hp, d1]; first | done | with_reducible rfl)); (case hi => first | trivial | (simp only [nx_H]; done)))
        | (apply WD.guardF; (case hj => (simp only [go_sem, Nat.reduceEqDiff, Nat.reduceAdd, reduceIte, hp, d1]; first | done | with_reducible rfl)); (case hi => first | trivial | (simp only [nx_H]; done)))
        | (apply WD.guardU; (case hj => (simp only [go_sem, Nat.reduceEqDiff, Nat.reduceAdd, reduceIte, hp, d1]; first | done | with_reducible rfl)); (case hi => first | trivial | (simp only [nx_H]; done)))
        | with_reducible exact tf
        | with_reducible exact ft
        | intro _)
    exact leave0 (by (simp only [go_sem, Nat.reduceEqDiff, Nat.reduceAdd, reduceIte]; first | done | with_reducible rfl)) (res1 (by (simp only [go_sem, Nat.reduceEqDiff, Nat.reduceAdd, reduceIte]; first | done | with_reducible rfl)) (by intro c h; cases h)) (by (simp only [go_sem, Nat.reduceEqDiff, Nat.reduceAdd, reduceIte]; first | done | with_reducible rfl))
  · have d1 : decide (k ≥ 0) = false := decide_eq_false h1
    have d2 : decide (0 ≤ k) = false := d1
    rw [d2, Bool.false_and]
    repeat' (first
        | refine W.seq ?_
        | refine W.wo ?_
        | refine WO.nil ?_
        | (apply WO.callv; (case e => (simp only [go_sem, Nat.reduceEqDiff, Nat.reduceAdd, reduceIte, hp, d1]; first | done | with_reducible rfl)); (case c => (simp only [go_sem, Nat.reduceEqDiff, Nat.reduceAdd, reduceIte, hp, d1]; first | done | with_reducible rfl)))
        | (apply WO.panicv; (case e => (simp only [go_sem, Nat.reduceEqDiff, Nat.reduceAdd, reduceIte, hp, d1]; first | done | with_reducible rfl)))
        | (apply WO.ok; (case e => (simp only [go_sem, Nat.reduceEqDiff, Nat.reduceAdd, reduceIte, hp, d1]; first | done | with_reducible rfl)))
        | (apply WO.guardT; (case hj => (simp only [go_sem, Nat.reduceEqDiff, Nat.reduceAdd, reduceIte, hp, d1]; first | done | with_reducible rfl)))
        | (apply WO.guardF; (case hj => (simp only [go_sem, Nat.reduceEqDiff, Nat.reduceAdd, reduceIte, hp, d1]; first | done | with_reducible rfl)))
        | (apply WO.guardU; (case hj => (simp only [go_sem, Nat.reduceEqDiff, Nat.reduceAdd, reduceIte, hp, d1]; first | done | with_reducible rfl)))
        | refine W.skip ?_
        | refine W.ret ?_
        | refine W.exit ?_
        | refine W.block ?_
        | (apply W.branch; (case e => (simp only [go_sem, Nat.reduceEqDiff, Nat.reduceAdd, reduceIte, hp, d1]; first | done | with_reducible rfl)))
        | refine WD.nil ?_
        | (apply WD.callv; (case e => (simp only [go_sem, Nat.reduceEqDiff, Nat.reduceAdd, reduceIte, hp, d1]; first | done | with_reducible rfl)); (case c => (simp only [go_sem, Nat.reduceEqDiff, Nat.reduceAdd, reduceIte, hp, d1]; first | done | with_reducible rfl)); (case hi => first | trivial | (simp only [nx_H]; done)); (case hc => rfl))
        | (apply WD.ok; (case e => (simp only [go_sem, Nat.reduceEqDiff, Nat.reduceAdd, reduceIte, hp, d1]; first | done | with_reducible rfl)); (case hi => first | trivial | (simp only [nx_H]; done)); (case hc => first | rfl | (simp only [eqV, beq_self_eq_true, Bool.and_self, Bool.or_true, Bool.and_true, Option.isSome_some]; done)))
        | (apply WD.guardT; (case hj => (simp only [go_sem, Nat.reduceEqDiff, Nat.reduceAdd, reduceIte, hp, d1]; first | done | with_reducible rfl)); (case hi => first | trivial | (simp only [nx_H]; done)))
        | (apply WD.guardF; (case hj => (simp only [go_sem, Nat.reduceEqDiff, Nat.reduceAdd, reduceIte, hp, d1]; first | done | with_reducible rfl)); (case hi => first | trivial | (simp only [nx_H]; done)))
        | (apply WD.guardU; (case hj => (simp only [go_sem, Nat.reduceEqDiff, Nat.reduceAdd, reduceIte, hp, d1]; first | done | with_reducible rfl)); (case hi => first | trivial | (simp only [nx_H]; done)))
        | with_reducible exact tf
        | with_reducible exact ft
        | intro _)
    exact leave0 (by (simp only [go_sem, Nat.reduceEqDiff, Nat.reduceAdd, reduceIte]; first | done | with_reducible rfl)) (res1 (by (simp only [go_sem, Nat.reduceEqDiff, Nat.reduceAdd, reduceIte]; first | done | with_reducible rfl)) (by intro c h; cases h)) (by (simp only [go_sem, Nat.reduceEqDiff, Nat.reduceAdd, reduceIte]; first | done | with_reducible rfl))
def lettersA : List Value := [.int .u8 97, .int .u8 65, .int .u8 98, .int .u8 66, .int .u8 99, .int .u8 67, .int .u8 100, .int .u8 68, .int .u8 101, .int .u8 69, .int .u8 102, .int .u8 70, .int .u8 103, .int .u8 71, .int .u8 104, .int .u8 72]
def Let (H : Hp) : Prop := 0 < H.size ∧ ∃ u ro, H.get 0 = some (.cells lettersA u ro)
theorem lettersA_at : ∀ j : Nat, j < 16 → lettersA[j]? = some (.int .u8 (lettersI.getD j 0)) := fun j hj => match j, hj with
  | 0, _ => rfl
  | 1, _ => rfl
  | 2, _ => rfl
  | 3, _ => rfl
  | 4, _ => rfl
  | 5, _ => rfl
  | 6, _ => rfl
  | 7, _ => rfl
  | 8, _ => rfl
  | 9, _ => rfl
  | 10, _ => rfl
  | 11, _ => rfl
  | 12, _ => rfl
  | 13, _ => rfl
  | 14, _ => rfl
  | 15, _ => rfl
  | n + 16, h => absurd h (by omega)
theorem index_at : ∀ j : Nat, j < 16 → index (lettersI.getD j 0) = j := fun j hj => match j, hj with
  | 0, _ => rfl
  | 1, _ => rfl
  | 2, _ => rfl
  | 3, _ => rfl
  | 4, _ => rfl
  | 5, _ => rfl
  | 6, _ => rfl
  | 7, _ => rfl
  | 8, _ => rfl
  | 9, _ => rfl
  | 10, _ => rfl
  | 11, _ => rfl
  | 12, _ => rfl
  | 13, _ => rfl
  | 14, _ => rfl
  | 15, _ => rfl
  | n + 16, h => absurd h (by omega)
theorem GK46 {xq : Caller} (hxq : ∀ f a H, ¬ (f = 13 ∨ f = 20) → xq f a H = none) (c : Int) (H : Hp) (hL : Let H) : (lim xq (compFunc Tryd.prog [0])) 46 #[.int .u8 c] H = some (.ret (.int .i64 (index c)) H) := by
  obtain ⟨_, u, ro, hL⟩ := hL
  have hld : loadAO H 16 (.pointer (some ⟨0, 0, none⟩)) = some (.agg lettersA.toArray) := by simp only [loadAO, hL]; rfl
  refine GK_call hxq a46_eq (by simp [a46]) ?_
  unfold a46
  repeat' (first
      | refine W.seq ?_
      | refine W.wo ?_
      | refine WO.nil ?_
      | (apply WO.callv; (case e => (simp only [go_sem, Nat.reduceEqDiff, Nat.reduceAdd, reduceIte, hld]; first | done | with_reducible rfl)); (case c => (simp only [go_sem, Nat.reduceEqDiff, Nat.reduceAdd, reduceIte, hld]; first | done | with_reducible rfl)))
      | (apply WO.panicv; (case e => (simp only [go_sem, Nat.reduceEqDiff, Nat.reduceAdd, reduceIte, hld]; first | done | with_reducible rfl)))
      | (apply WO.ok; (case e => (simp only [go_sem, Nat.reduceEqDiff, Nat.reduceAdd, reduceIte, hld]; first | done | with_reducible rfl)))
      | (apply WO.guardT; (case hj => (simp only [go_sem, Nat.reduceEqDiff, Nat.reduceAdd, reduceIte, hld]; first | done | with_reducible rfl)))
      | (apply WO.guardF; (case hj => (simp only [go_sem, Nat.reduceEqDiff, Nat.reduceAdd, reduceIte, hld]; first | done | with_reducible rfl)))
      | (apply WO.guardU; (case hj => (simp only [go_sem, Nat.reduceEqDiff, Nat.reduceAdd, reduceIte, hld]; first | done | with_reducible rfl)))
      | refine W.skip ?_
      | refine W.ret ?_
      | refine W.exit ?_
      | refine W.block ?_
      | (apply W.branch; (case e => (simp only [go_sem, Nat.reduceEqDiff, Nat.reduceAdd, reduceIte, hld]; first | done | with_reducible rfl)))
      | refine WD.nil ?_
      | (apply WD.callv; (case e => (simp only [go_sem, Nat.reduceEqDiff, Nat.reduceAdd, reduceIte, hld]; first | done | with_reducible rfl)); (case c => (simp only [go_sem, Nat.reduceEqDiff, Nat.reduceAdd, reduceIte, hld]; first | done | with_reducible rfl)); (case hi => first | trivial | (simp only [nx_H]; done)); (case hc => rfl))
      | (apply WD.ok; (case e => (simp only [go_sem, Nat.reduceEqDiff, Nat.reduceAdd, reduceIte, hld]; first | done | with_reducible rfl)); (case hi => first | trivial | (simp only [nx_H]; done)); (case hc => first | rfl | (simp only [eqV, beq_self_eq_true, Bool.and_self, Bool.or_true, Bool.and_true, Option.isSome_some]; done)))
      | (apply WD.guardT; (case hj => (simp only [go_sem, Nat.reduceEqDiff, Nat.reduceAdd, reduceIte, hld]; first | done | with_reducible rfl)); (case hi => first | trivial | (simp only [nx_H]; done)))
      | (apply WD.guardF; (case hj => (simp only [go_sem, Nat.reduceEqDiff, Nat.reduceAdd, reduceIte, hld]; first | done | with_reducible rfl)); (case hi => first | trivial | (simp only [nx_H]; done)))
      | (apply WD.guardU; (case hj => (simp only [go_sem, Nat.reduceEqDiff, Nat.reduceAdd, reduceIte, hld]; first | done | with_reducible rfl)); (case hi => first | trivial | (simp only [nx_H]; done)))
      | with_reducible exact tf
      | with_reducible exact ft
      | intro _)
  refine W.loop (fun m s => ∃ j : Nat, j ≤ 16 ∧ m = 16 - j ∧ s.get 6 = .int .i64 (j : Int) ∧ s.get 5 = .agg lettersA.toArray ∧ s.get 0 = .int .u8 c ∧ s.H = H ∧ s.ds = [] ∧ ∀ i : Nat, i < j → lettersI.getD i 0 ≠ c) 16 ⟨0, by omega, rfl, by (simp only [go_sem, Nat.reduceEqDiff, Nat.reduceAdd, reduceIte]; first | done | rfl), by (simp only [go_sem, Nat.reduceEqDiff, Nat.reduceAdd, reduceIte]; first | done | with_reducible rfl), by (simp only [go_sem, Nat.reduceEqDiff, Nat.reduceAdd, reduceIte]; first | done | with_reducible rfl), by (simp only [go_sem, Nat.reduceEqDiff, Nat.reduceAdd, reduceIte]; first | done | with_reducible rfl), by (simp only [go_sem, Nat.reduceEqDiff, Nat.reduceAdd, reduceIte]; first | done | with_reducible rfl), fun i hi => absurd hi (by omega)⟩ ?_
  rintro m s ⟨j, hj, rfl, g6, g5, g0, gH, gd, hno⟩
  by_cases hj16 : j = 16
  · subst hj16
    have hc : decide (((16 : Nat) : Int) < 16) = false := by decide
    repeat' (first
        | refine W.seq ?_
        | refine W.wo ?_
        | refine WO.nil ?_
        | (apply WO.callv; (case e => (simp only [go_sem, Nat.reduceEqDiff, Nat.reduceAdd, reduceIte, g6, g5, g0, gH, gd, hc]; first | done | with_reducible rfl)); (case c => (simp only [go_sem, Nat.reduceEqDiff, Nat.reduceAdd, reduceIte, g6, g5, g0, gH, gd, hc]; first | done | with_reducible rfl)))
        | (apply WO.panicv; (case e => (simp only [go_sem, Nat.reduceEqDiff, Nat.reduceAdd, reduceIte, g6, g5, g0, gH, gd, hc]; first | done | with_reducible rfl)))
        | (apply WO.ok; (case e => (simp only [go_sem, Nat.reduceEqDiff, Nat.reduceAdd, reduceIte, g6, g5, g0, gH, gd, hc]; first | done | with_reducible rfl)))
        | (apply WO.guardT; (case hj => (simp only [go_sem, Nat.reduceEqDiff, Nat.reduceAdd, reduceIte, g6, g5, g0, gH, gd, hc]; first | done | with_reducible rfl)))
        | (apply WO.guardF; (case hj => (simp only [go_sem, Nat.reduceEqDiff, Nat.reduceAdd, reduceIte, g6, g5, g0, gH, gd, hc]; first | done | with_reducible rfl)))
        | (apply WO.guardU; (case hj => (simp only [go_sem, Nat.reduceEqDiff, Nat.reduceAdd, reduceIte, g6, g5, g0, gH, gd, hc]; first | done | with_reducible rfl)))
        | refine W.skip ?_
        | refine W.ret ?_
        | refine W.exit ?_
        | refine W.block ?_
        | (apply W.branch; (case e => (simp only [go_sem, Nat.reduceEqDiff, Nat.reduceAdd, reduceIte, g6, g5, g0, gH, gd, hc]; first | done | with_reducible rfl)))
        | refine WD.nil ?_
        | (apply WD.callv; (case e => (simp only [go_sem, Nat.reduceEqDiff, Nat.reduceAdd, reduceIte, g6, g5, g0, gH, gd, hc]; first | done | with_reducible rfl)); (case c => (simp only [go_sem, Nat.reduceEqDiff, Nat.reduceAdd, reduceIte, g6, g5, g0, gH, gd, hc]; first | done | with_reducible rfl)); (case hi => first | trivial | (simp only [nx_H]; done)); (case hc => rfl))
        | (apply WD.ok; (case e => (simp only [go_sem, Nat.reduceEqDiff, Nat.reduceAdd, reduceIte, g6, g5, g0, gH, gd, hc]; first | done | with_reducible rfl)); (case hi => first | trivial | (simp only [nx_H]; done)); (case hc => first | rfl | (simp only [eqV, beq_self_eq_true, Bool.and_self, Bool.or_true, Bool.and_true, Option.isSome_some]; done)))
        | (apply WD.guardT; (case hj => (simp only [go_sem, Nat.reduceEqDiff, Nat.reduceAdd, reduceIte, g6, g5, g0, gH, gd, hc]; first | done | with_reducible rfl)); (case hi => first | trivial | (simp only [nx_H]; done)))
        | (apply WD.guardF; (case hj => (simp only [go_sem, Nat.reduceEqDiff, Nat.reduceAdd, reduceIte, g6, g5, g0, gH, gd, hc]; first | done | with_reducible rfl)); (case hi => first | trivial | (simp only [nx_H]; done)))
        | (apply WD.guardU; (case hj => (simp only [go_sem, Nat.reduceEqDiff, Nat.reduceAdd, reduceIte, g6, g5, g0, gH, gd, hc]; first | done | with_reducible rfl)); (case hi => first | trivial | (simp only [nx_H]; done)))
        | with_reducible exact tf
        | with_reducible exact ft
        | intro _)
    rw [index_none hno]
    exact leave0 (by (simp only [go_sem, Nat.reduceEqDiff, Nat.reduceAdd, reduceIte, gH, gd]; first | done | with_reducible rfl)) (res1 (by (simp only [go_sem, Nat.reduceEqDiff, Nat.reduceAdd, reduceIte, gH, gd]; first | done | with_reducible rfl)) (by intro c h; cases h)) (by (simp only [go_sem, Nat.reduceEqDiff, Nat.reduceAdd, reduceIte, gH, gd]; first | done | with_reducible rfl))
  · have hc : decide ((j : Int) < 16) = true := by simp; omega
    have hix : (0 ≤ (j : Int) ∧ (j : Int) < ((16 : Nat) : Int)) = True := by simp; omega
    have hel : lettersA.toArray[(j : Int).toNat * 1]? = some (.int .u8 (lettersI.getD j 0)) := by
      have := lettersA_at j (by omega)
      simpa using this
    have hw : IntKind.i64.wrap ((j : Int) + 1) = ((j + 1 : Nat) : Int) := by simp [IntKind.wrap, IntKind.bits, IntKind.signed]; omega
    repeat' (first
        | refine W.seq ?_
        | refine W.wo ?_
        | refine WO.nil ?_
        | (apply WO.callv; (case e => (simp only [go_sem, Nat.reduceEqDiff, Nat.reduceAdd, reduceIte, g6, g5, g0, gH, gd, hc, hix, hel, hw]; first | done | with_reducible rfl)); (case c => (simp only [go_sem, Nat.reduceEqDiff, Nat.reduceAdd, reduceIte, g6, g5, g0, gH, gd, hc, hix, hel, hw]; first | done | with_reducible rfl)))
        | (apply WO.panicv; (case e => (simp only [go_sem, Nat.reduceEqDiff, Nat.reduceAdd, reduceIte, g6, g5, g0, gH, gd, hc, hix, hel, hw]; first | done | with_reducible rfl)))
        | (apply WO.ok; (case e => (simp only [go_sem, Nat.reduceEqDiff, Nat.reduceAdd, reduceIte, g6, g5, g0, gH, gd, hc, hix, hel, hw]; first | done | with_reducible rfl)))
        | (apply WO.guardT; (case hj => (simp only [go_sem, Nat.reduceEqDiff, Nat.reduceAdd, reduceIte, g6, g5, g0, gH, gd, hc, hix, hel, hw]; first | done | with_reducible rfl)))
        | (apply WO.guardF; (case hj => (simp only [go_sem, Nat.reduceEqDiff, Nat.reduceAdd, reduceIte, g6, g5, g0, gH, gd, hc, hix, hel, hw]; first | done | with_reducible rfl)))
        | (apply WO.guardU; (case hj => (simp only [go_sem, Nat.reduceEqDiff, Nat.reduceAdd, reduceIte, g6, g5, g0, gH, gd, hc, hix, hel, hw]; first | done | with_reducible rfl)))
        | refine W.skip ?_
        | refine W.ret ?_
        | refine W.exit ?_
        | refine W.block ?_
        | (apply W.branch; (case e => (simp only [go_sem, Nat.reduceEqDiff, Nat.reduceAdd, reduceIte, g6, g5, g0, gH, gd, hc, hix, hel, hw]; first | done | with_reducible rfl)))
        | refine WD.nil ?_
        | (apply WD.callv; (case e => (simp only [go_sem, Nat.reduceEqDiff, Nat.reduceAdd, reduceIte, g6, g5, g0, gH, gd, hc, hix, hel, hw]; first | done | with_reducible rfl)); (case c => (simp only [go_sem, Nat.reduceEqDiff, Nat.reduceAdd, reduceIte, g6, g5, g0, gH, gd, hc, hix, hel, hw]; first | done | with_reducible rfl)); (case hi => first | trivial | (simp only [nx_H]; done)); (case hc => rfl))
        | (apply WD.ok; (case e => (simp only [go_sem, Nat.reduceEqDiff, Nat.reduceAdd, reduceIte, g6, g5, g0, gH, gd, hc, hix, hel, hw]; first | done | with_reducible rfl)); (case hi => first | trivial | (simp only [nx_H]; done)); (case hc => first | rfl | (simp only [eqV, beq_self_eq_true, Bool.and_self, Bool.or_true, Bool.and_true, Option.isSome_some]; done)))
        | (apply WD.guardT; (case hj => (simp only [go_sem, Nat.reduceEqDiff, Nat.reduceAdd, reduceIte, g6, g5, g0, gH, gd, hc, hix, hel, hw]; first | done | with_reducible rfl)); (case hi => first | trivial | (simp only [nx_H]; done)))
        | (apply WD.guardF; (case hj => (simp only [go_sem, Nat.reduceEqDiff, Nat.reduceAdd, reduceIte, g6, g5, g0, gH, gd, hc, hix, hel, hw]; first | done | with_reducible rfl)); (case hi => first | trivial | (simp only [nx_H]; done)))
        | (apply WD.guardU; (case hj => (simp only [go_sem, Nat.reduceEqDiff, Nat.reduceAdd, reduceIte, g6, g5, g0, gH, gd, hc, hix, hel, hw]; first | done | with_reducible rfl)); (case hi => first | trivial | (simp only [nx_H]; done)))
        | with_reducible exact tf
        | with_reducible exact ft
        | intro _)
    · rename_i he
      have : index c = j := by
        rw [← eq_of_beq he]
        exact index_at j (by omega)
      rw [this]
      exact leave0 (by (simp only [go_sem, Nat.reduceEqDiff, Nat.reduceAdd, reduceIte, gH, gd]; first | done | with_reducible rfl)) (res1 (by (simp only [go_sem, Nat.reduceEqDiff, Nat.reduceAdd, reduceIte, gH, gd]; first | done | with_reducible rfl)) (by intro c h; cases h)) (by (simp only [go_sem, Nat.reduceEqDiff, Nat.reduceAdd, reduceIte, gH, gd]; first | done | with_reducible rfl))
    · rename_i he
      refine ⟨16 - (j + 1), by omega, j + 1, by omega, rfl, by (simp only [go_sem, Nat.reduceEqDiff, Nat.reduceAdd, reduceIte, g6, gH]; first | done | with_reducible rfl), by (simp only [go_sem, Nat.reduceEqDiff, Nat.reduceAdd, reduceIte, g5, gH]; first | done | with_reducible rfl), by (simp only [go_sem, Nat.reduceEqDiff, Nat.reduceAdd, reduceIte, g0]; first | done | with_reducible rfl), by (simp only [go_sem, Nat.reduceEqDiff, Nat.reduceAdd, reduceIte, gH]; first | done | with_reducible rfl), by (simp only [go_sem, Nat.reduceEqDiff, Nat.reduceAdd, reduceIte, gd]; first | done | with_reducible rfl), fun i hi => ?_⟩
      by_cases hij : i = j
      · subst hij
        intro h0
        rw [h0] at he
        simp at he
      · exact hno i (by omega)
theorem GK61 {xq : Caller} (hxq : ∀ f a H, ¬ (f = 13 ∨ f = 20) → xq f a H = none) (R : Nat) (p : Value) (H : Hp) (hL : Let H) (hp : loadO H p = some (.int .i64 8)) : (lim xq (compFunc Tryd.prog [0])) 61 #[.int .i32 (R : Int), p] H = some (.ret (.bool (badR R)) H) := by
  have h46 : ∀ c, (lim xq (compFunc Tryd.prog [0])) 46 #[.int .u8 c] H = some (.ret (.int .i64 (index c)) H) := fun c => GK46 hxq c H hL
  refine GK_call hxq a61_eq (by simp [a61]) ?_
  unfold a61
  by_cases h1 : 127 < R
  · have hb : badR R = true := by unfold badR; simp [h1]
    rw [hb]
    have d1 : decide ((R : Int) > 127) = true := by simp; omega
    repeat' (first
        | refine W.seq ?_
        | refine W.wo ?_
        | refine WO.nil ?_
        | (apply WO.callv; (case e => (simp only [go_sem, Nat.reduceEqDiff, Nat.reduceAdd, reduceIte]; first | done | with_reducible rfl)); (case c => (simp only [go_sem, Nat.reduceEqDiff, Nat.reduceAdd, reduceIte]; first | done | with_reducible rfl)))
        | (apply WO.panicv; (case e => (simp only [go_sem, Nat.reduceEqDiff, Nat.reduceAdd, reduceIte]; first | done | with_reducible rfl)))
        | (apply WO.ok; (case e => (simp only [go_sem, Nat.reduceEqDiff, Nat.reduceAdd, reduceIte]; first | done | with_reducible rfl)))
        | (apply WO.guardT; (case hj => (simp only [go_sem, Nat.reduceEqDiff, Nat.reduceAdd, reduceIte]; first | done | with_reducible rfl)))
        | (apply WO.guardF; (case hj => (simp only [go_sem, Nat.reduceEqDiff, Nat.reduceAdd, reduceIte]; first | done | with_reducible rfl)))
        | (apply WO.guardU; (case hj => (simp only [go_sem, Nat.reduceEqDiff, Nat.reduceAdd, reduceIte]; first | done | with_reducible rfl)))
        | refine W.skip ?_
        | refine W.ret ?_
        | refine W.exit ?_
        | refine W.block ?_
        | (apply W.branch; (case e => (simp only [go_sem, Nat.reduceEqDiff, Nat.reduceAdd, reduceIte]; first | done | with_reducible rfl)))
        | refine WD.nil ?_
        | (apply WD.callv; (case e => (simp only [go_sem, Nat.reduceEqDiff, Nat.reduceAdd, reduceIte]; first | done | with_reducible rfl)); (case c => (simp only [go_sem, Nat.reduceEqDiff, Nat.reduceAdd, reduceIte]; first | done | with_reducible rfl)); (case hi => first | trivial | (simp only [nx_H]; done)); (case hc => rfl))
        | (apply WD.ok; (case e => (simp only [go_sem, Nat.reduceEqDiff, Nat.reduceAdd, reduceIte]; first | done | with_reducible rfl)); (case hi => first | trivial | (simp only [nx_H]; done)); (case hc => first | rfl | (simp only [eqV, beq_self_eq_true, Bool.and_self, Bool.or_true, Bool.and_true, Option.isSome_some]; done)))
        | (apply WD.guardT; (case hj => (simp only [go_sem, Nat.reduceEqDiff, Nat.reduceAdd, reduceIte]; first | done | with_reducible rfl)); (case hi => first | trivial | (simp only [nx_H]; done)))
        | (apply WD.guardF; (case hj => (simp only [go_sem, Nat.reduceEqDiff, Nat.reduceAdd, reduceIte]; first | done | with_reducible rfl)); (case hi => first | trivial | (simp only [nx_H]; done)))
        | (apply WD.guardU; (case hj => (simp only [go_sem, Nat.reduceEqDiff, Nat.reduceAdd, reduceIte]; first | done | with_reducible rfl)); (case hi => first | trivial | (simp only [nx_H]; done)))
        | with_reducible exact tf
        | with_reducible exact ft
        | intro _)
    apply W.wq
    case hg => kernel_rfl
    repeat' (first
        | refine W.seq ?_
        | refine W.wo ?_
        | refine WO.nil ?_
        | (apply WO.callv; (case e => (simp only [go_sem, Nat.reduceEqDiff, Nat.reduceAdd, reduceIte, d1]; first | done | with_reducible rfl)); (case c => (simp only [go_sem, Nat.reduceEqDiff, Nat.reduceAdd, reduceIte, d1]; first | done | with_reducible rfl)))
        | (apply WO.panicv; (case e => (simp only [go_sem, Nat.reduceEqDiff, Nat.reduceAdd, reduceIte, d1]; first | done | with_reducible rfl)))
        | (apply WO.ok; (case e => (simp only [go_sem, Nat.reduceEqDiff, Nat.reduceAdd, reduceIte, d1]; first | done | with_reducible rfl)))
        | (apply WO.guardT; (case hj => (simp only [go_sem, Nat.reduceEqDiff, Nat.reduceAdd, reduceIte, d1]; first | done | with_reducible rfl)))
        | (apply WO.guardF; (case hj => (simp only [go_sem, Nat.reduceEqDiff, Nat.reduceAdd, reduceIte, d1]; first | done | with_reducible rfl)))
        | (apply WO.guardU; (case hj => (simp only [go_sem, Nat.reduceEqDiff, Nat.reduceAdd, reduceIte, d1]; first | done | with_reducible rfl)))
        | refine W.skip ?_
        | refine W.ret ?_
        | refine W.exit ?_
        | refine W.block ?_
        | (apply W.branch; (case e => (simp only [go_sem, Nat.reduceEqDiff, Nat.reduceAdd, reduceIte, d1]; first | done | with_reducible rfl)))
        | refine WD.nil ?_
        | (apply WD.callv; (case e => (simp only [go_sem, Nat.reduceEqDiff, Nat.reduceAdd, reduceIte, d1]; first | done | with_reducible rfl)); (case c => (simp only [go_sem, Nat.reduceEqDiff, Nat.reduceAdd, reduceIte, d1]; first | done | with_reducible rfl)); (case hi => first | trivial | (simp only [nx_H]; done)); (case hc => rfl))
        | (apply WD.ok; (case e => (simp only [go_sem, Nat.reduceEqDiff, Nat.reduceAdd, reduceIte, d1]; first | done | with_reducible rfl)); (case hi => first | trivial | (simp only [nx_H]; done)); (case hc => first | rfl | (simp only [eqV, beq_self_eq_true, Bool.and_self, Bool.or_true, Bool.and_true, Option.isSome_some]; done)))
        | (apply WD.guardT; (case hj => (simp only [go_sem, Nat.reduceEqDiff, Nat.reduceAdd, reduceIte, d1]; first | done | with_reducible rfl)); (case hi => first | trivial | (simp only [nx_H]; done)))
        | (apply WD.guardF; (case hj => (simp only [go_sem, Nat.reduceEqDiff, Nat.reduceAdd, reduceIte, d1]; first | done | with_reducible rfl)); (case hi => first | trivial | (simp only [nx_H]; done)))
        | (apply WD.guardU; (case hj => (simp only [go_sem, Nat.reduceEqDiff, Nat.reduceAdd, reduceIte, d1]; first | done | with_reducible rfl)); (case hi => first | trivial | (simp only [nx_H]; done)))
        | with_reducible exact tf
        | with_reducible exact ft
        | intro _)
    exact leave0 (by (simp only [go_sem, Nat.reduceEqDiff, Nat.reduceAdd, reduceIte]; first | done | with_reducible rfl)) (res1 (by (simp only [go_sem, Nat.reduceEqDiff, Nat.reduceAdd, reduceIte]; first | done | with_reducible rfl)) (by intro c h; cases h)) (by (simp only [go_sem, Nat.reduceEqDiff, Nat.reduceAdd, reduceIte]; first | done | with_reducible rfl))
  · have hw : IntKind.u8.wrap (R : Int) = (R : Int) := by simp [IntKind.wrap, IntKind.bits, IntKind.signed]; omega
    have d1 : decide ((R : Int) > 127) = false := by simp; omega
    have hr := index_range (R : Int)
    have d3 : decide (index (R : Int) ≥ IntKind.i64.wrap (2 * 8)) = false := by
      have : IntKind.i64.wrap (2 * 8) = 16 := by decide
      rw [this]; simp; omega
    by_cases h2 : index (R : Int) < 0
    · have hb : badR R = true := by unfold badR; simp [h1, h2]
      rw [hb]
      have d2 : decide (index (R : Int) < 0) = true := by simp [h2]
      repeat' (first
          | refine W.seq ?_
          | refine W.wo ?_
          | refine WO.nil ?_
          | (apply WO.callv; (case e => (simp only [go_sem, Nat.reduceEqDiff, Nat.reduceAdd, reduceIte]; first | done | with_reducible rfl)); (case c => (simp only [go_sem, Nat.reduceEqDiff, Nat.reduceAdd, reduceIte]; first | done | with_reducible rfl)))
          | (apply WO.panicv; (case e => (simp only [go_sem, Nat.reduceEqDiff, Nat.reduceAdd, reduceIte]; first | done | with_reducible rfl)))
          | (apply WO.ok; (case e => (simp only [go_sem, Nat.reduceEqDiff, Nat.reduceAdd, reduceIte]; first | done | with_reducible rfl)))
          | (apply WO.guardT; (case hj => (simp only [go_sem, Nat.reduceEqDiff, Nat.reduceAdd, reduceIte]; first | done | with_reducible rfl)))
          | (apply WO.guardF; (case hj => (simp only [go_sem, Nat.reduceEqDiff, Nat.reduceAdd, reduceIte]; first | done | with_reducible rfl)))
          | (apply WO.guardU; (case hj => (simp only [go_sem, Nat.reduceEqDiff, Nat.reduceAdd, reduceIte]; first | done | with_reducible rfl)))
          | refine W.skip ?_
          | refine W.ret ?_
          | refine W.exit ?_
          | refine W.block ?_
          | (apply W.branch; (case e => (simp only [go_sem, Nat.reduceEqDiff, Nat.reduceAdd, reduceIte]; first | done | with_reducible rfl)))
          | refine WD.nil ?_
          | (apply WD.callv; (case e => (simp only [go_sem, Nat.reduceEqDiff, Nat.reduceAdd, reduceIte]; first | done | with_reducible rfl)); (case c => (simp only [go_sem, Nat.reduceEqDiff, Nat.reduceAdd, reduceIte]; first | done | with_reducible rfl)); (case hi => first | trivial | (simp only [nx_H]; done)); (case hc => rfl))
          | (apply WD.ok; (case e => (simp only [go_sem, Nat.reduceEqDiff, Nat.reduceAdd, reduceIte]; first | done | with_reducible rfl)); (case hi => first | trivial | (simp only [nx_H]; done)); (case hc => first | rfl | (simp only [eqV, beq_self_eq_true, Bool.and_self, Bool.or_true, Bool.and_true, Option.isSome_some]; done)))
          | (apply WD.guardT; (case hj => (simp only [go_sem, Nat.reduceEqDiff, Nat.reduceAdd, reduceIte]; first | done | with_reducible rfl)); (case hi => first | trivial | (simp only [nx_H]; done)))
          | (apply WD.guardF; (case hj => (simp only [go_sem, Nat.reduceEqDiff, Nat.reduceAdd, reduceIte]; first | done | with_reducible rfl)); (case hi => first | trivial | (simp only [nx_H]; done)))
          | (apply WD.guardU; (case hj => (simp only [go_sem, Nat.reduceEqDiff, Nat.reduceAdd, reduceIte]; first | done | with_reducible rfl)); (case hi => first | trivial | (simp only [nx_H]; done)))
          | with_reducible exact tf
          | with_reducible exact ft
          | intro _)
      apply W.wq
      case hg => kernel_rfl
      repeat' (first
          | refine W.seq ?_
          | refine W.wo ?_
          | refine WO.nil ?_
          | (apply WO.callv; (case e => (simp only [go_sem, Nat.reduceEqDiff, Nat.reduceAdd, reduceIte, d1, hw, h46, d2]; first | done | with_reducible rfl)); (case c => (simp only [go_sem, Nat.reduceEqDiff, Nat.reduceAdd, reduceIte, d1, hw, h46, d2]; first | done | with_reducible rfl)))
          | (apply WO.panicv; (case e => (simp only [go_sem, Nat.reduceEqDiff, Nat.reduceAdd, reduceIte, d1, hw, h46, d2]; first | done | with_reducible rfl)))
          | (apply WO.ok; (case e => (simp only [go_sem, Nat.reduceEqDiff, Nat.reduceAdd, reduceIte, d1, hw, h46, d2]; first | done | with_reducible rfl)))
          | (apply WO.guardT; (case hj => (simp only [go_sem, Nat.reduceEqDiff, Nat.reduceAdd, reduceIte, d1, hw, h46, d2]; first | done | with_reducible rfl)))
          | (apply WO.guardF; (case hj => (simp only [go_sem, Nat.reduceEqDiff, Nat.reduceAdd, reduceIte, d1, hw, h46, d2]; first | done | with_reducible rfl)))
          | (apply WO.guardU; (case hj => (simp only [go_sem, Nat.reduceEqDiff, Nat.reduceAdd, reduceIte, d1, hw, h46, d2]; first | done | with_reducible rfl)))
          | refine W.skip ?_
          | refine W.ret ?_
          | refine W.exit ?_
          | refine W.block ?_
          | (apply W.branch; (case e => (simp only [go_sem, Nat.reduceEqDiff, Nat.reduceAdd, reduceIte, d1, hw, h46, d2]; first | done | with_reducible rfl)))
          | refine WD.nil ?_
          | (apply WD.callv; (case e => (simp only [go_sem, Nat.reduceEqDiff, Nat.reduceAdd, reduceIte, d1, hw, h46, d2]; first | done | with_reducible rfl)); (case c => (simp only [go_sem, Nat.reduceEqDiff, Nat.reduceAdd, reduceIte, d1, hw, h46, d2]; first | done | with_reducible rfl)); (case hi => first | trivial | (simp only [nx_H]; done)); (case hc => rfl))
          | (apply WD.ok; (case e => (simp only [go_sem, Nat.reduceEqDiff, Nat.reduceAdd, reduceIte, d1, hw, h46, d2]; first | done | with_reducible rfl)); (case hi => first | trivial | (simp only [nx_H]; done)); (case hc => first | rfl | (simp only [eqV, beq_self_eq_true, Bool.and_self, Bool.or_true, Bool.and_true, Option.isSome_some]; done)))
          | (apply WD.guardT; (case hj => (simp only [go_sem, Nat.reduceEqDiff, Nat.reduceAdd, reduceIte, d1, hw, h46, d2]; first | done | with_reducible rfl)); (case hi => first | trivial | (simp only [nx_H]; done)))
          | (apply WD.guardF; (case hj => (simp only [go_sem, Nat.reduceEqDiff, Nat.reduceAdd, reduceIte, d1, hw, h46, d2]; first | done | with_reducible rfl)); (case hi => first | trivial | (simp only [nx_H]; done)))
          | (apply WD.guardU; (case hj => (simp only [go_sem, Nat.reduceEqDiff, Nat.reduceAdd, reduceIte, d1, hw, h46, d2]; first | done | with_reducible rfl)); (case hi => first | trivial | (simp only [nx_H]; done)))
          | with_reducible exact tf
          | with_reducible exact ft
          | intro _)
      exact leave0 (by (simp only [go_sem, Nat.reduceEqDiff, Nat.reduceAdd, reduceIte]; first | done | with_reducible rfl)) (res1 (by (simp only [go_sem, Nat.reduceEqDiff, Nat.reduceAdd, reduceIte]; first | done | with_reducible rfl)) (by intro c h; cases h)) (by (simp only [go_sem, Nat.reduceEqDiff, Nat.reduceAdd, reduceIte]; first | done | with_reducible rfl))
    · have hb : badR R = false := by unfold badR; simp [h1, h2]
      rw [hb]
      have d2 : decide (index (R : Int) < 0) = false := by simp; omega
      repeat' (first
          | refine W.seq ?_
          | refine W.wo ?_
          | refine WO.nil ?_
          | (apply WO.callv; (case e => (simp only [go_sem, Nat.reduceEqDiff, Nat.reduceAdd, reduceIte]; first | done | with_reducible rfl)); (case c => (simp only [go_sem, Nat.reduceEqDiff, Nat.reduceAdd, reduceIte]; first | done | with_reducible rfl)))
          | (apply WO.panicv; (case e => (simp only [go_sem, Nat.reduceEqDiff, Nat.reduceAdd, reduceIte]; first | done | with_reducible rfl)))
          | (apply WO.ok; (case e => (simp only [go_sem, Nat.reduceEqDiff, Nat.reduceAdd, reduceIte]; first | done | with_reducible rfl)))
          | (apply WO.guardT; (case hj => (simp only [go_sem, Nat.reduceEqDiff, Nat.reduceAdd, reduceIte]; first | done | with_reducible rfl)))
          | (apply WO.guardF; (case hj => (simp only [go_sem, Nat.reduceEqDiff, Nat.reduceAdd, reduceIte]; first | done | with_reducible rfl)))
          | (apply WO.guardU; (case hj => (simp only [go_sem, Nat.reduceEqDiff, Nat.reduceAdd, reduceIte]; first | done | with_reducible rfl)))
          | refine W.skip ?_
          | refine W.ret ?_
          | refine W.exit ?_
          | refine W.block ?_
          | (apply W.branch; (case e => (simp only [go_sem, Nat.reduceEqDiff, Nat.reduceAdd, reduceIte]; first | done | with_reducible rfl)))
          | refine WD.nil ?_
          | (apply WD.callv; (case e => (simp only [go_sem, Nat.reduceEqDiff, Nat.reduceAdd, reduceIte]; first | done | with_reducible rfl)); (case c => (simp only [go_sem, Nat.reduceEqDiff, Nat.reduceAdd, reduceIte]; first | done | with_reducible rfl)); (case hi => first | trivial | (simp only [nx_H]; done)); (case hc => rfl))
          | (apply WD.ok; (case e => (simp only [go_sem, Nat.reduceEqDiff, Nat.reduceAdd, reduceIte]; first | done | with_reducible rfl)); (case hi => first | trivial | (simp only [nx_H]; done)); (case hc => first | rfl | (simp only [eqV, beq_self_eq_true, Bool.and_self, Bool.or_true, Bool.and_true, Option.isSome_some]; done)))
          | (apply WD.guardT; (case hj => (simp only [go_sem, Nat.reduceEqDiff, Nat.reduceAdd, reduceIte]; first | done | with_reducible rfl)); (case hi => first | trivial | (simp only [nx_H]; done)))
          | (apply WD.guardF; (case hj => (simp only [go_sem, Nat.reduceEqDiff, Nat.reduceAdd, reduceIte]; first | done | with_reducible rfl)); (case hi => first | trivial | (simp only [nx_H]; done)))
          | (apply WD.guardU; (case hj => (simp only [go_sem, Nat.reduceEqDiff, Nat.reduceAdd, reduceIte]; first | done | with_reducible rfl)); (case hi => first | trivial | (simp only [nx_H]; done)))
          | with_reducible exact tf
          | with_reducible exact ft
          | intro _)
      apply W.wq
      case hg => kernel_rfl
      repeat' (first
          | refine W.seq ?_
          | refine W.wo ?_
          | refine WO.nil ?_
          | (apply WO.callv; (case e => (simp only [go_sem, Nat.reduceEqDiff, Nat.reduceAdd, reduceIte, d1, hw, h46, d2, d3, hp]; first | done | with_reducible rfl)); (case c => (simp only [go_sem, Nat.reduceEqDiff, Nat.reduceAdd, reduceIte, d1, hw, h46, d2, d3, hp]; first | done | with_reducible rfl)))
          | (apply WO.panicv; (case e => (simp only [go_sem, Nat.reduceEqDiff, Nat.reduceAdd, reduceIte, d1, hw, h46, d2, d3, hp]; first | done | with_reducible rfl)))
          | (apply WO.ok; (case e => (simp only [go_sem, Nat.reduceEqDiff, Nat.reduceAdd, reduceIte, d1, hw, h46, d2, d3, hp]; first | done | with_reducible rfl)))
          | (apply WO.guardT; (case hj => (simp only [go_sem, Nat.reduceEqDiff, Nat.reduceAdd, reduceIte, d1, hw, h46, d2, d3, hp]; first | done | with_reducible rfl)))
          | (apply WO.guardF; (case hj => (simp only [go_sem, Nat.reduceEqDiff, Nat.reduceAdd, reduceIte, d1, hw, h46, d2, d3, hp]; first | done | with_reducible rfl)))
          | (apply WO.guardU; (case hj => (simp only [go_sem, Nat.reduceEqDiff, Nat.reduceAdd, reduceIte, d1, hw, h46, d2, d3, hp]; first | done | with_reducible rfl)))
          | refine W.skip ?_
          | refine W.ret ?_
          | refine W.exit ?_
          | refine W.block ?_
          | (apply W.branch; (case e => (simp only [go_sem, Nat.reduceEqDiff, Nat.reduceAdd, reduceIte, d1, hw, h46, d2, d3, hp]; first | done | with_reducible rfl)))
          | refine WD.nil ?_
          | (apply WD.callv; (case e => (simp only [go_sem, Nat.reduceEqDiff, Nat.reduceAdd, reduceIte, d1, hw, h46, d2, d3, hp]; first | done | with_reducible rfl)); (case c => (simp only [go_sem, Nat.reduceEqDiff, Nat.reduceAdd, reduceIte, d1, hw, h46, d2, d3, hp]; first | done | with_reducible rfl)); (case hi => first | trivial | (simp only [nx_H]; done)); (case hc => rfl))
          | (apply WD.ok; (case e => (simp only [go_sem, Nat.reduceEqDiff, Nat.reduceAdd, reduceIte, d1, hw, h46, d2, d3, hp]; first | done | with_reducible rfl)); (case hi => first | trivial | (simp only [nx_H]; done)); (case hc => first | rfl | (simp only [eqV, beq_self_eq_true, Bool.and_self, Bool.or_true, Bool.and_true, Option.isSome_some]; done)))
          | (apply WD.guardT; (case hj => (simp only [go_sem, Nat.reduceEqDiff, Nat.reduceAdd, reduceIte, d1, hw, h46, d2, d3, hp]; first | done | with_reducible rfl)); (case hi => first | trivial | (simp only [nx_H]; done)))
          | (apply WD.guardF; (case hj => (simp only [go_sem, Nat.reduceEqDiff, Nat.reduceAdd, reduceIte, d1, hw, h46, d2, d3, hp]; first | done | with_reducible rfl)); (case hi => first | trivial | (simp only [nx_H]; done)))
          | (apply WD.guardU; (case hj => (simp only [go_sem, Nat.reduceEqDiff, Nat.reduceAdd, reduceIte, d1, hw, h46, d2, d3, hp]; first | done | with_reducible rfl)); (case hi => first | trivial | (simp only [nx_H]; done)))
          | with_reducible exact tf
          | with_reducible exact ft
          | intro _)
      exact leave0 (by (simp only [go_sem, Nat.reduceEqDiff, Nat.reduceAdd, reduceIte]; first | done | with_reducible rfl)) (res1 (by (simp only [go_sem, Nat.reduceEqDiff, Nat.reduceAdd, reduceIte]; first | done | with_reducible rfl)) (by intro c h; cases h)) (by (simp only [go_sem, Nat.reduceEqDiff, Nat.reduceAdd, reduceIte]; first | done | with_reducible rfl))
def Keep (H H' : Hp) : Prop := H.size ≤ H'.size ∧ ∀ b, b < H.size → H'.get b = H.get b
theorem Keep.refl (H : Hp) : Keep H H := ⟨Nat.le_refl _, fun _ _ => rfl⟩
theorem Keep.trans {a b c : Hp} (h : Keep a b) (k : Keep b c) : Keep a c := ⟨Nat.le_trans h.1 k.1, fun x hx => (k.2 x (by have := h.1; omega)).trans (h.2 x hx)⟩
theorem Keep.new (H : Hp) (o : AObj) : Keep H (H.new o) := ⟨by rw [Hp.size_new]; omega, fun b hb => by rw [Hp.get_new, if_neg (by omega)]⟩
theorem Keep.put {H H' : Hp} (h : Keep H H') {b : Nat} (hb : H.size ≤ b) (o : AObj) : Keep H (H'.put b o) := ⟨h.1, fun x hx => by rw [Hp.get_put, if_neg (by omega)]; exact h.2 x hx⟩
theorem Let.keep {H H' : Hp} (h : Let H) (k : Keep H H') : Let H' := by
  obtain ⟨h0, u, ro, h⟩ := h
  exact ⟨by have := k.1; omega, u, ro, by rw [k.2 0 h0]; exact h⟩
theorem loadO_keep {H H' : Hp} (k : Keep H H') {b o : Nat} (hb : b < H.size) : loadO H' (.pointer (some ⟨b, o, none⟩)) = loadO H (.pointer (some ⟨b, o, none⟩)) := by
  simp only [loadO, k.2 b hb]
theorem GK85 {xq : Caller} (hxq : ∀ f a H, ¬ (f = 13 ∨ f = 20) → xq f a H = none) (B : Nat) (s : ByteArray) (H : Hp) (hL : Let H) (hB : B < H.size) (hp : loadO H (.pointer (some ⟨B, 0, none⟩)) = some (.int .i64 8)) :
    ∃ (i : Int) (H' : Hp), (lim xq (compFunc Tryd.prog [0])) 85 #[.string s, .func (.func 61) #[] #[.pointer (some ⟨B, 0, none⟩)], .bool true] H = some (.ret (.int .i64 i) H') ∧ decide (0 ≤ i) = !allLB s ∧ Keep H H' := by
  suffices hx : W (lim xq (compFunc Tryd.prog [0])) a85.body { t := enterT 0 #[.string s, .func (.func 61) #[] #[.pointer (some ⟨B, 0, none⟩)], .bool true].toList .nil, H, ds := [], df := false, pm := none } fun ex st => ex = .ret ∧ st.ds = [] ∧ ∃ i : Int, st.get 6 = .int .i64 i ∧ decide (0 ≤ i) = !allLB s ∧ Keep H st.H by
    unfold W at hx
    obtain ⟨n, ex, st, h1, rfl, h2, i, h3, h4, h5⟩ := hx
    refine ⟨i, st.H, GK_call hxq a85_eq (by simp [a85]) ?_, h4, h5⟩
    unfold W
    exact ⟨n, .ret, st, h1, leave0 h2 (res1 h3 (by intro c h; cases h)) rfl⟩
  unfold a85
  repeat' (first
      | refine W.seq ?_
      | refine W.wo ?_
      | refine WO.nil ?_
      | (apply WO.callv; (case e => (simp only [go_sem, Nat.reduceEqDiff, Nat.reduceAdd, reduceIte]; first | done | with_reducible rfl)); (case c => (simp only [go_sem, Nat.reduceEqDiff, Nat.reduceAdd, reduceIte]; first | done | with_reducible rfl)))
      | (apply WO.panicv; (case e => (simp only [go_sem, Nat.reduceEqDiff, Nat.reduceAdd, reduceIte]; first | done | with_reducible rfl)))
      | (apply WO.ok; (case e => (simp only [go_sem, Nat.reduceEqDiff, Nat.reduceAdd, reduceIte]; first | done | with_reducible rfl)))
      | (apply WO.guardT; (case hj => (simp only [go_sem, Nat.reduceEqDiff, Nat.reduceAdd, reduceIte]; first | done | with_reducible rfl)))
      | (apply WO.guardF; (case hj => (simp only [go_sem, Nat.reduceEqDiff, Nat.reduceAdd, reduceIte]; first | done | with_reducible rfl)))
      | (apply WO.guardU; (case hj => (simp only [go_sem, Nat.reduceEqDiff, Nat.reduceAdd, reduceIte]; first | done | with_reducible rfl)))
      | refine W.skip ?_
      | refine W.ret ?_
      | refine W.exit ?_
      | refine W.block ?_
      | (apply W.branch; (case e => (simp only [go_sem, Nat.reduceEqDiff, Nat.reduceAdd, reduceIte]; first | done | with_reducible rfl)))
      | refine WD.nil ?_
      | (apply WD.callv; (case e => (simp only [go_sem, Nat.reduceEqDiff, Nat.reduceAdd, reduceIte]; first | done | with_reducible rfl)); (case c => (simp only [go_sem, Nat.reduceEqDiff, Nat.reduceAdd, reduceIte]; first | done | with_reducible rfl)); (case hi => first | trivial | (simp only [nx_H]; done)); (case hc => rfl))
      | (apply WD.ok; (case e => (simp only [go_sem, Nat.reduceEqDiff, Nat.reduceAdd, reduceIte]; first | done | with_reducible rfl)); (case hi => first | trivial | (simp only [nx_H]; done)); (case hc => first | rfl | (simp only [eqV, beq_self_eq_true, Bool.and_self, Bool.or_true, Bool.and_true, Option.isSome_some]; done)))
      | (apply WD.guardT; (case hj => (simp only [go_sem, Nat.reduceEqDiff, Nat.reduceAdd, reduceIte]; first | done | with_reducible rfl)); (case hi => first | trivial | (simp only [nx_H]; done)))
      | (apply WD.guardF; (case hj => (simp only [go_sem, Nat.reduceEqDiff, Nat.reduceAdd, reduceIte]; first | done | with_reducible rfl)); (case hi => first | trivial | (simp only [nx_H]; done)))
      | (apply WD.guardU; (case hj => (simp only [go_sem, Nat.reduceEqDiff, Nat.reduceAdd, reduceIte]; first | done | with_reducible rfl)); (case hi => first | trivial | (simp only [nx_H]; done)))
      | with_reducible exact tf
      | with_reducible exact ft
      | intro _)
  refine W.loop (fun m st => ∃ pos : Nat, m = s.size - pos ∧ st.get 10 = .pointer (some ⟨H.size, 0, none⟩) ∧ st.get 1 = .func (.func 61) #[] #[.pointer (some ⟨B, 0, none⟩)] ∧ st.get 2 = .bool true ∧ st.ds = [] ∧ st.H.get H.size = some (.iter s pos) ∧ Keep H st.H ∧ ∀ j : Nat, j < pos → isLB (bt s (j : Int)) = true) s.size ⟨0, by omega, by (simp only [go_sem, Nat.reduceEqDiff, Nat.reduceAdd, reduceIte]; first | done | with_reducible rfl), by (simp only [go_sem, Nat.reduceEqDiff, Nat.reduceAdd, reduceIte]; first | done | with_reducible rfl), by (simp only [go_sem, Nat.reduceEqDiff, Nat.reduceAdd, reduceIte]; first | done | with_reducible rfl), by (simp only [go_sem, Nat.reduceEqDiff, Nat.reduceAdd, reduceIte]; first | done | with_reducible rfl), by simp only [nx_H, Hp.get_new, if_true], by simp only [nx_H]; exact Keep.new _ _, fun i hi => absurd hi (by omega)⟩ ?_
  rintro m st ⟨pos, rfl, g10, g1, g2, gd, gi, gk, hno⟩
  by_cases hps : pos < s.size
  · obtain ⟨hbad, hone⟩ := rune_bad s pos hps
    obtain ⟨R, hR⟩ : ∃ R, (Utf8.decode s pos).1 = R := ⟨_, rfl⟩
    obtain ⟨D, hD⟩ : ∃ D, (Utf8.decode s pos).2 = D := ⟨_, rfl⟩
    rw [hR] at hbad
    rw [hD] at hone
    have k1 : Keep H (st.H.put H.size (.iter s (pos + D))) := gk.put (Nat.le_refl _) _
    have h61 := GK61 hxq R (.pointer (some ⟨B, 0, none⟩)) _ (hL.keep k1) ((loadO_keep k1 hB).trans hp)
    rw [hbad] at h61
    cases hl : isLB (bt s (pos : Int)) with
    | true =>
      rw [hl] at h61
      obtain rfl := hone hl
      repeat' (first
          | refine W.seq ?_
          | refine W.wo ?_
          | refine WO.nil ?_
          | (apply WO.callv; (case e => (simp only [go_sem, Nat.reduceEqDiff, Nat.reduceAdd, reduceIte, g10, g1, g2, gi, hps, hR, hD, h61, List.getElem?_toArray, List.getElem?_cons_zero, List.getElem?_cons_succ]; first | done | with_reducible rfl)); (case c => (simp only [go_sem, Nat.reduceEqDiff, Nat.reduceAdd, reduceIte, g10, g1, g2, gi, hps, hR, hD, h61, List.getElem?_toArray, List.getElem?_cons_zero, List.getElem?_cons_succ]; first | done | with_reducible rfl)))
          | (apply WO.panicv; (case e => (simp only [go_sem, Nat.reduceEqDiff, Nat.reduceAdd, reduceIte, g10, g1, g2, gi, hps, hR, hD, h61, List.getElem?_toArray, List.getElem?_cons_zero, List.getElem?_cons_succ]; first | done | with_reducible rfl)))
          | (apply WO.ok; (case e => (simp only [go_sem, Nat.reduceEqDiff, Nat.reduceAdd, reduceIte, g10, g1, g2, gi, hps, hR, hD, h61, List.getElem?_toArray, List.getElem?_cons_zero, List.getElem?_cons_succ]; first | done | with_reducible rfl)))
          | (apply WO.guardT; (case hj => (simp only [go_sem, Nat.reduceEqDiff, Nat.reduceAdd, reduceIte, g10, g1, g2, gi, hps, hR, hD, h61, List.getElem?_toArray, List.getElem?_cons_zero, List.getElem?_cons_succ]; first | done | with_reducible rfl)))
          | (apply WO.guardF; (case hj => (simp only [go_sem, Nat.reduceEqDiff, Nat.reduceAdd, reduceIte, g10, g1, g2, gi, hps, hR, hD, h61, List.getElem?_toArray, List.getElem?_cons_zero, List.getElem?_cons_succ]; first | done | with_reducible rfl)))
          | (apply WO.guardU; (case hj => (simp only [go_sem, Nat.reduceEqDiff, Nat.reduceAdd, reduceIte, g10, g1, g2, gi, hps, hR, hD, h61, List.getElem?_toArray, List.getElem?_cons_zero, List.getElem?_cons_succ]; first | done | with_reducible rfl)))
          | refine W.skip ?_
          | refine W.ret ?_
          | refine W.exit ?_
          | refine W.block ?_
          | (apply W.branch; (case e => (simp only [go_sem, Nat.reduceEqDiff, Nat.reduceAdd, reduceIte, g10, g1, g2, gi, hps, hR, hD, h61, List.getElem?_toArray, List.getElem?_cons_zero, List.getElem?_cons_succ]; first | done | with_reducible rfl)))
          | refine WD.nil ?_
          | (apply WD.callv; (case e => (simp only [go_sem, Nat.reduceEqDiff, Nat.reduceAdd, reduceIte, g10, g1, g2, gi, hps, hR, hD, h61, List.getElem?_toArray, List.getElem?_cons_zero, List.getElem?_cons_succ]; first | done | with_reducible rfl)); (case c => (simp only [go_sem, Nat.reduceEqDiff, Nat.reduceAdd, reduceIte, g10, g1, g2, gi, hps, hR, hD, h61, List.getElem?_toArray, List.getElem?_cons_zero, List.getElem?_cons_succ]; first | done | with_reducible rfl)); (case hi => first | trivial | (simp only [nx_H]; done)); (case hc => rfl))
          | (apply WD.ok; (case e => (simp only [go_sem, Nat.reduceEqDiff, Nat.reduceAdd, reduceIte, g10, g1, g2, gi, hps, hR, hD, h61, List.getElem?_toArray, List.getElem?_cons_zero, List.getElem?_cons_succ]; first | done | with_reducible rfl)); (case hi => first | trivial | (simp only [nx_H]; done)); (case hc => first | rfl | (simp only [eqV, beq_self_eq_true, Bool.and_self, Bool.or_true, Bool.and_true, Option.isSome_some]; done)))
          | (apply WD.guardT; (case hj => (simp only [go_sem, Nat.reduceEqDiff, Nat.reduceAdd, reduceIte, g10, g1, g2, gi, hps, hR, hD, h61, List.getElem?_toArray, List.getElem?_cons_zero, List.getElem?_cons_succ]; first | done | with_reducible rfl)); (case hi => first | trivial | (simp only [nx_H]; done)))
          | (apply WD.guardF; (case hj => (simp only [go_sem, Nat.reduceEqDiff, Nat.reduceAdd, reduceIte, g10, g1, g2, gi, hps, hR, hD, h61, List.getElem?_toArray, List.getElem?_cons_zero, List.getElem?_cons_succ]; first | done | with_reducible rfl)); (case hi => first | trivial | (simp only [nx_H]; done)))
          | (apply WD.guardU; (case hj => (simp only [go_sem, Nat.reduceEqDiff, Nat.reduceAdd, reduceIte, g10, g1, g2, gi, hps, hR, hD, h61, List.getElem?_toArray, List.getElem?_cons_zero, List.getElem?_cons_succ]; first | done | with_reducible rfl)); (case hi => first | trivial | (simp only [nx_H]; done)))
          | with_reducible exact tf
          | with_reducible exact ft
          | intro _)
      refine ⟨s.size - (pos + 1), by omega, pos + 1, rfl, by (simp only [go_sem, Nat.reduceEqDiff, Nat.reduceAdd, reduceIte, g10]; first | done | with_reducible rfl), by (simp only [go_sem, Nat.reduceEqDiff, Nat.reduceAdd, reduceIte, g1]; first | done | with_reducible rfl), by (simp only [go_sem, Nat.reduceEqDiff, Nat.reduceAdd, reduceIte, g2]; first | done | with_reducible rfl), by (simp only [go_sem, Nat.reduceEqDiff, Nat.reduceAdd, reduceIte, gd]; first | done | with_reducible rfl), by simp only [nx_H, Hp.get_put, if_true], by simp only [nx_H]; exact k1, fun j hj => ?_⟩
      by_cases hj' : j < pos
      · exact hno j hj'
      · rw [show j = pos by omega]; exact hl
    | false =>
      rw [hl] at h61
      repeat' (first
          | refine W.seq ?_
          | refine W.wo ?_
          | refine WO.nil ?_
          | (apply WO.callv; (case e => (simp only [go_sem, Nat.reduceEqDiff, Nat.reduceAdd, reduceIte, g10, g1, g2, gi, hps, hR, hD, h61, List.getElem?_toArray, List.getElem?_cons_zero, List.getElem?_cons_succ]; first | done | with_reducible rfl)); (case c => (simp only [go_sem, Nat.reduceEqDiff, Nat.reduceAdd, reduceIte, g10, g1, g2, gi, hps, hR, hD, h61, List.getElem?_toArray, List.getElem?_cons_zero, List.getElem?_cons_succ]; first | done | with_reducible rfl)))
          | (apply WO.panicv; (case e => (simp only [go_sem, Nat.reduceEqDiff, Nat.reduceAdd, reduceIte, g10, g1, g2, gi, hps, hR, hD, h61, List.getElem?_toArray, List.getElem?_cons_zero, List.getElem?_cons_succ]; first | done | with_reducible rfl)))
          | (apply WO.ok; (case e => (simp only [go_sem, Nat.reduceEqDiff, Nat.reduceAdd, reduceIte, g10, g1, g2, gi, hps, hR, hD, h61, List.getElem?_toArray, List.getElem?_cons_zero, List.getElem?_cons_succ]; first | done | with_reducible rfl)))
          | (apply WO.guardT; (case hj => (simp only [go_sem, Nat.reduceEqDiff, Nat.reduceAdd, reduceIte, g10, g1, g2, gi, hps, hR, hD, h61, List.getElem?_toArray, List.getElem?_cons_zero, List.getElem?_cons_succ]; first | done | with_reducible rfl)))
          | (apply WO.guardF; (case hj => (simp only [go_sem, Nat.reduceEqDiff, Nat.reduceAdd, reduceIte, g10, g1, g2, gi, hps, hR, hD, h61, List.getElem?_toArray, List.getElem?_cons_zero, List.getElem?_cons_succ]; first | done | with_reducible rfl)))
          | (apply WO.guardU; (case hj => (simp only [go_sem, Nat.reduceEqDiff, Nat.reduceAdd, reduceIte, g10, g1, g2, gi, hps, hR, hD, h61, List.getElem?_toArray, List.getElem?_cons_zero, List.getElem?_cons_succ]; first | done | with_reducible rfl)))
          | refine W.skip ?_
          | refine W.ret ?_
          | refine W.exit ?_
          | refine W.block ?_
          | (apply W.branch; (case e => (simp only [go_sem, Nat.reduceEqDiff, Nat.reduceAdd, reduceIte, g10, g1, g2, gi, hps, hR, hD, h61, List.getElem?_toArray, List.getElem?_cons_zero, List.getElem?_cons_succ]; first | done | with_reducible rfl)))
          | refine WD.nil ?_
          | (apply WD.callv; (case e => (simp only [go_sem, Nat.reduceEqDiff, Nat.reduceAdd, reduceIte, g10, g1, g2, gi, hps, hR, hD, h61, List.getElem?_toArray, List.getElem?_cons_zero, List.getElem?_cons_succ]; first | done | with_reducible rfl)); (case c => (simp only [go_sem, Nat.reduceEqDiff, Nat.reduceAdd, reduceIte, g10, g1, g2, gi, hps, hR, hD, h61, List.getElem?_toArray, List.getElem?_cons_zero, List.getElem?_cons_succ]; first | done | with_reducible rfl)); (case hi => first | trivial | (simp only [nx_H]; done)); (case hc => rfl))
          | (apply WD.ok; (case e => (simp only [go_sem, Nat.reduceEqDiff, Nat.reduceAdd, reduceIte, g10, g1, g2, gi, hps, hR, hD, h61, List.getElem?_toArray, List.getElem?_cons_zero, List.getElem?_cons_succ]; first | done | with_reducible rfl)); (case hi => first | trivial | (simp only [nx_H]; done)); (case hc => first | rfl | (simp only [eqV, beq_self_eq_true, Bool.and_self, Bool.or_true, Bool.and_true, Option.isSome_some]; done)))
          | (apply WD.guardT; (case hj => (simp only [go_sem, Nat.reduceEqDiff, Nat.reduceAdd, reduceIte, g10, g1, g2, gi, hps, hR, hD, h61, List.getElem?_toArray, List.getElem?_cons_zero, List.getElem?_cons_succ]; first | done | with_reducible rfl)); (case hi => first | trivial | (simp only [nx_H]; done)))
          | (apply WD.guardF; (case hj => (simp only [go_sem, Nat.reduceEqDiff, Nat.reduceAdd, reduceIte, g10, g1, g2, gi, hps, hR, hD, h61, List.getElem?_toArray, List.getElem?_cons_zero, List.getElem?_cons_succ]; first | done | with_reducible rfl)); (case hi => first | trivial | (simp only [nx_H]; done)))
          | (apply WD.guardU; (case hj => (simp only [go_sem, Nat.reduceEqDiff, Nat.reduceAdd, reduceIte, g10, g1, g2, gi, hps, hR, hD, h61, List.getElem?_toArray, List.getElem?_cons_zero, List.getElem?_cons_succ]; first | done | with_reducible rfl)); (case hi => first | trivial | (simp only [nx_H]; done)))
          | with_reducible exact tf
          | with_reducible exact ft
          | intro _)
      exact ⟨rfl, by (simp only [go_sem, Nat.reduceEqDiff, Nat.reduceAdd, reduceIte, gd]; first | done | with_reducible rfl), pos, by (simp only [go_sem, Nat.reduceEqDiff, Nat.reduceAdd, reduceIte]; first | done | with_reducible rfl), by rw [allLB_no hps hl]; simp, by simp only [nx_H]; exact k1⟩
  · have hyes := allLB_yes (s := s) (fun j hj => hno j (by omega))
    repeat' (first
        | refine W.seq ?_
        | refine W.wo ?_
        | refine WO.nil ?_
        | (apply WO.callv; (case e => (simp only [go_sem, Nat.reduceEqDiff, Nat.reduceAdd, reduceIte, g10, g1, g2, gi, hps, List.getElem?_toArray, List.getElem?_cons_zero, List.getElem?_cons_succ]; first | done | with_reducible rfl)); (case c => (simp only [go_sem, Nat.reduceEqDiff, Nat.reduceAdd, reduceIte, g10, g1, g2, gi, hps, List.getElem?_toArray, List.getElem?_cons_zero, List.getElem?_cons_succ]; first | done | with_reducible rfl)))
        | (apply WO.panicv; (case e => (simp only [go_sem, Nat.reduceEqDiff, Nat.reduceAdd, reduceIte, g10, g1, g2, gi, hps, List.getElem?_toArray, List.getElem?_cons_zero, List.getElem?_cons_succ]; first | done | with_reducible rfl)))
        | (apply WO.ok; (case e => (simp only [go_sem, Nat.reduceEqDiff, Nat.reduceAdd, reduceIte, g10, g1, g2, gi, hps, List.getElem?_toArray, List.getElem?_cons_zero, List.getElem?_cons_succ]; first | done | with_reducible rfl)))
        | (apply WO.guardT; (case hj => (simp only [go_sem, Nat.reduceEqDiff, Nat.reduceAdd, reduceIte, g10, g1, g2, gi, hps, List.getElem?_toArray, List.getElem?_cons_zero, List.getElem?_cons_succ]; first | done | with_reducible rfl)))
        | (apply WO.guardF; (case hj => (simp only [go_sem, Nat.reduceEqDiff, Nat.reduceAdd, reduceIte, g10, g1, g2, gi, hps, List.getElem?_toArray, List.getElem?_cons_zero, List.getElem?_cons_succ]; first | done | with_reducible rfl)))
        | (apply WO.guardU; (case hj => (simp only [go_sem, Nat.reduceEqDiff, Nat.reduceAdd, reduceIte, g10, g1, g2, gi, hps, List.getElem?_toArray, List.getElem?_cons_zero, List.getElem?_cons_succ]; first | done | with_reducible rfl)))
        | refine W.skip ?_
        | refine W.ret ?_
        | refine W.exit ?_
        | refine W.block ?_
        | (apply W.branch; (case e => (simp only [go_sem, Nat.reduceEqDiff, Nat.reduceAdd, reduceIte, g10, g1, g2, gi, hps, List.getElem?_toArray, List.getElem?_cons_zero, List.getElem?_cons_succ]; first | done | with_reducible rfl)))
        | refine WD.nil ?_
        | (apply WD.callv; (case e => (simp only [go_sem, Nat.reduceEqDiff, Nat.reduceAdd, reduceIte, g10, g1, g2, gi, hps, List.getElem?_toArray, List.getElem?_cons_zero, List.getElem?_cons_succ]; first | done | with_reducible rfl)); (case c => (simp only [go_sem, Nat.reduceEqDiff, Nat.reduceAdd, reduceIte, g10, g1, g2, gi, hps, List.getElem?_toArray, List.getElem?_cons_zero, List.getElem?_cons_succ]; first | done | with_reducible rfl)); (case hi => first | trivial | (simp only [nx_H]; done)); (case hc => rfl))
        | (apply WD.ok; (case e => (simp only [go_sem, Nat.reduceEqDiff, Nat.reduceAdd, reduceIte, g10, g1, g2, gi, hps, List.getElem?_toArray, List.getElem?_cons_zero, List.getElem?_cons_succ]; first | done | with_reducible rfl)); (case hi => first | trivial | (simp only [nx_H]; done)); (case hc => first | rfl | (simp only [eqV, beq_self_eq_true, Bool.and_self, Bool.or_true, Bool.and_true, Option.isSome_some]; done)))
        | (apply WD.guardT; (case hj => (simp only [go_sem, Nat.reduceEqDiff, Nat.reduceAdd, reduceIte, g10, g1, g2, gi, hps, List.getElem?_toArray, List.getElem?_cons_zero, List.getElem?_cons_succ]; first | done | with_reducible rfl)); (case hi => first | trivial | (simp only [nx_H]; done)))
        | (apply WD.guardF; (case hj => (simp only [go_sem, Nat.reduceEqDiff, Nat.reduceAdd, reduceIte, g10, g1, g2, gi, hps, List.getElem?_toArray, List.getElem?_cons_zero, List.getElem?_cons_succ]; first | done | with_reducible rfl)); (case hi => first | trivial | (simp only [nx_H]; done)))
        | (apply WD.guardU; (case hj => (simp only [go_sem, Nat.reduceEqDiff, Nat.reduceAdd, reduceIte, g10, g1, g2, gi, hps, List.getElem?_toArray, List.getElem?_cons_zero, List.getElem?_cons_succ]; first | done | with_reducible rfl)); (case hi => first | trivial | (simp only [nx_H]; done)))
        | with_reducible exact tf
        | with_reducible exact ft
        | intro _)
    exact ⟨rfl, by (simp only [go_sem, Nat.reduceEqDiff, Nat.reduceAdd, reduceIte, gd]; first | done | with_reducible rfl), -1, by (simp only [go_sem, Nat.reduceEqDiff, Nat.reduceAdd, reduceIte]; first | done | with_reducible rfl), by rw [hyes]; rfl, by simp only [nx_H]; exact gk⟩
theorem GK82 {xq : Caller} (hxq : ∀ f a H, ¬ (f = 13 ∨ f = 20) → xq f a H = none) (B : Nat) (s : ByteArray) (H : Hp) (hL : Let H) (hB : B < H.size) (hp : loadO H (.pointer (some ⟨B, 0, none⟩)) = some (.int .i64 8)) :
    ∃ (i : Int) (H' : Hp), (lim xq (compFunc Tryd.prog [0])) 82 #[.string s, .func (.func 61) #[] #[.pointer (some ⟨B, 0, none⟩)]] H = some (.ret (.int .i64 i) H') ∧ decide (0 ≤ i) = !allLB s ∧ Keep H H' := by
  obtain ⟨i, H', h1, h2, h3⟩ := GK85 hxq B s H hL hB hp
  refine ⟨i, H', GK_call hxq a82_eq (by simp [a82]) ?_, h2, h3⟩
  unfold a82
  repeat' (first
      | refine W.seq ?_
      | refine W.wo ?_
      | refine WO.nil ?_
      | (apply WO.callv; (case e => (simp only [go_sem, Nat.reduceEqDiff, Nat.reduceAdd, reduceIte, h1]; first | done | with_reducible rfl)); (case c => (simp only [go_sem, Nat.reduceEqDiff, Nat.reduceAdd, reduceIte, h1]; first | done | with_reducible rfl)))
      | (apply WO.panicv; (case e => (simp only [go_sem, Nat.reduceEqDiff, Nat.reduceAdd, reduceIte, h1]; first | done | with_reducible rfl)))
      | (apply WO.ok; (case e => (simp only [go_sem, Nat.reduceEqDiff, Nat.reduceAdd, reduceIte, h1]; first | done | with_reducible rfl)))
      | (apply WO.guardT; (case hj => (simp only [go_sem, Nat.reduceEqDiff, Nat.reduceAdd, reduceIte, h1]; first | done | with_reducible rfl)))
      | (apply WO.guardF; (case hj => (simp only [go_sem, Nat.reduceEqDiff, Nat.reduceAdd, reduceIte, h1]; first | done | with_reducible rfl)))
      | (apply WO.guardU; (case hj => (simp only [go_sem, Nat.reduceEqDiff, Nat.reduceAdd, reduceIte, h1]; first | done | with_reducible rfl)))
      | refine W.skip ?_
      | refine W.ret ?_
      | refine W.exit ?_
      | refine W.block ?_
      | (apply W.branch; (case e => (simp only [go_sem, Nat.reduceEqDiff, Nat.reduceAdd, reduceIte, h1]; first | done | with_reducible rfl)))
      | refine WD.nil ?_
      | (apply WD.callv; (case e => (simp only [go_sem, Nat.reduceEqDiff, Nat.reduceAdd, reduceIte, h1]; first | done | with_reducible rfl)); (case c => (simp only [go_sem, Nat.reduceEqDiff, Nat.reduceAdd, reduceIte, h1]; first | done | with_reducible rfl)); (case hi => first | trivial | (simp only [nx_H]; done)); (case hc => rfl))
      | (apply WD.ok; (case e => (simp only [go_sem, Nat.reduceEqDiff, Nat.reduceAdd, reduceIte, h1]; first | done | with_reducible rfl)); (case hi => first | trivial | (simp only [nx_H]; done)); (case hc => first | rfl | (simp only [eqV, beq_self_eq_true, Bool.and_self, Bool.or_true, Bool.and_true, Option.isSome_some]; done)))
      | (apply WD.guardT; (case hj => (simp only [go_sem, Nat.reduceEqDiff, Nat.reduceAdd, reduceIte, h1]; first | done | with_reducible rfl)); (case hi => first | trivial | (simp only [nx_H]; done)))
      | (apply WD.guardF; (case hj => (simp only [go_sem, Nat.reduceEqDiff, Nat.reduceAdd, reduceIte, h1]; first | done | with_reducible rfl)); (case hi => first | trivial | (simp only [nx_H]; done)))
      | (apply WD.guardU; (case hj => (simp only [go_sem, Nat.reduceEqDiff, Nat.reduceAdd, reduceIte, h1]; first | done | with_reducible rfl)); (case hi => first | trivial | (simp only [nx_H]; done)))
      | with_reducible exact tf
      | with_reducible exact ft
      | intro _)
  exact leave0 (by (simp only [go_sem, Nat.reduceEqDiff, Nat.reduceAdd, reduceIte]; first | done | with_reducible rfl)) (res1 (by (simp only [go_sem, Nat.reduceEqDiff, Nat.reduceAdd, reduceIte]; first | done | with_reducible rfl)) (by intro c h; cases h)) (by (simp only [go_sem, Nat.reduceEqDiff, Nat.reduceAdd, reduceIte]; first | done | with_reducible rfl))
theorem GK60 {xq : Caller} (hxq : ∀ f a H, ¬ (f = 13 ∨ f = 20) → xq f a H = none) (B : Nat) (s : ByteArray) (H : Hp) (hL : Let H) (hB : B < H.size) (hp : loadO H (.pointer (some ⟨B, 0, none⟩)) = some (.int .i64 8)) :
    ∃ H' : Hp, (lim xq (compFunc Tryd.prog [0])) 60 #[.string s, .func (.func 61) #[] #[.pointer (some ⟨B, 0, none⟩)]] H = some (.ret (.bool (!allLB s)) H') ∧ Keep H H' := by
  obtain ⟨i, H', h1, h2, h3⟩ := GK82 hxq B s H hL hB hp
  refine ⟨H', GK_call hxq a60_eq (by simp [a60]) ?_, h3⟩
  rw [← h2]
  unfold a60
  repeat' (first
      | refine W.seq ?_
      | refine W.wo ?_
      | refine WO.nil ?_
      | (apply WO.callv; (case e => (simp only [go_sem, Nat.reduceEqDiff, Nat.reduceAdd, reduceIte, h1]; first | done | with_reducible rfl)); (case c => (simp only [go_sem, Nat.reduceEqDiff, Nat.reduceAdd, reduceIte, h1]; first | done | with_reducible rfl)))
      | (apply WO.panicv; (case e => (simp only [go_sem, Nat.reduceEqDiff, Nat.reduceAdd, reduceIte, h1]; first | done | with_reducible rfl)))
      | (apply WO.ok; (case e => (simp only [go_sem, Nat.reduceEqDiff, Nat.reduceAdd, reduceIte, h1]; first | done | with_reducible rfl)))
      | (apply WO.guardT; (case hj => (simp only [go_sem, Nat.reduceEqDiff, Nat.reduceAdd, reduceIte, h1]; first | done | with_reducible rfl)))
      | (apply WO.guardF; (case hj => (simp only [go_sem, Nat.reduceEqDiff, Nat.reduceAdd, reduceIte, h1]; first | done | with_reducible rfl)))
      | (apply WO.guardU; (case hj => (simp only [go_sem, Nat.reduceEqDiff, Nat.reduceAdd, reduceIte, h1]; first | done | with_reducible rfl)))
      | refine W.skip ?_
      | refine W.ret ?_
      | refine W.exit ?_
      | refine W.block ?_
      | (apply W.branch; (case e => (simp only [go_sem, Nat.reduceEqDiff, Nat.reduceAdd, reduceIte, h1]; first | done | with_reducible rfl)))
      | refine WD.nil ?_
      | (apply WD.callv; (case e => (simp only [go_sem, Nat.reduceEqDiff, Nat.reduceAdd, reduceIte, h1]; first | done | with_reducible rfl)); (case c => (simp only [go_sem, Nat.reduceEqDiff, Nat.reduceAdd, reduceIte, h1]; first | done | with_reducible rfl)); (case hi => first | trivial | (simp only [nx_H]; done)); (case hc => rfl))
      | (apply WD.ok; (case e => (simp only [go_sem, Nat.reduceEqDiff, Nat.reduceAdd, reduceIte, h1]; first | done | with_reducible rfl)); (case hi => first | trivial | (simp only [nx_H]; done)); (case hc => first | rfl | (simp only [eqV, beq_self_eq_true, Bool.and_self, Bool.or_true, Bool.and_true, Option.isSome_some]; done)))
      | (apply WD.guardT; (case hj => (simp only [go_sem, Nat.reduceEqDiff, Nat.reduceAdd, reduceIte, h1]; first | done | with_reducible rfl)); (case hi => first | trivial | (simp only [nx_H]; done)))
      | (apply WD.guardF; (case hj => (simp only [go_sem, Nat.reduceEqDiff, Nat.reduceAdd, reduceIte, h1]; first | done | with_reducible rfl)); (case hi => first | trivial | (simp only [nx_H]; done)))
      | (apply WD.guardU; (case hj => (simp only [go_sem, Nat.reduceEqDiff, Nat.reduceAdd, reduceIte, h1]; first | done | with_reducible rfl)); (case hi => first | trivial | (simp only [nx_H]; done)))
      | with_reducible exact tf
      | with_reducible exact ft
      | intro _)
  exact leave0 (by (simp only [go_sem, Nat.reduceEqDiff, Nat.reduceAdd, reduceIte]; first | done | with_reducible rfl)) (res1 (by (simp only [go_sem, Nat.reduceEqDiff, Nat.reduceAdd, reduceIte]; first | done | with_reducible rfl)) (by intro c h; cases h)) (by (simp only [go_sem, Nat.reduceEqDiff, Nat.reduceAdd, reduceIte]; first | done | with_reducible rfl))
theorem GK41 {xq : Caller} (hxq : ∀ f a H, ¬ (f = 13 ∨ f = 20) → xq f a H = none) (s : ByteArray) (H : Hp) (hL : Let H) : ∃ H' : Hp, (lim xq (compFunc Tryd.prog [0])) 41 #[.int .i64 8, .string s] H = some (.ret (.int .i64 (checkS s)) H') ∧ Keep H H' := by
  have hk := Keep.new H (.cells [.int .i64 8] ⟨0, 3, true⟩ false)
  have hp : loadO (H.new (.cells [.int .i64 8] ⟨0, 3, true⟩ false)) (.pointer (some ⟨H.size, 0, none⟩)) = some (.int .i64 8) := by simp only [loadO, Hp.get_new, if_true]; rfl
  obtain ⟨H', h1, h2⟩ := GK60 hxq H.size s _ (hL.keep hk) (by rw [Hp.size_new]; omega) hp
  have hc : (Value.int .i64 8).cells.toList = [.int .i64 8] := rfl
  have hl1 : decide ((8 : Int) < 1) = false := by decide
  have hl2 : decide ((8 : Int) > 8) = false := by decide
  unfold checkS
  by_cases hs : s.size ≤ 100000
  · have hs1 : decide ((s.size : Int) > 100000) = false := by simp; omega
    rw [if_pos hs]
    cases ha : allLB s with
    | true =>
      rw [ha] at h1
      refine ⟨H', GK_call hxq a41_eq (by simp [a41]) ?_, hk.trans h2⟩
      unfold a41
      repeat' (first
          | refine W.seq ?_
          | refine W.wo ?_
          | refine WO.nil ?_
          | (apply WO.callv; (case e => (simp only [go_sem, Nat.reduceEqDiff, Nat.reduceAdd, reduceIte, hc, hp, hl1, hl2, hs1, h1]; first | done | with_reducible rfl)); (case c => (simp only [go_sem, Nat.reduceEqDiff, Nat.reduceAdd, reduceIte, hc, hp, hl1, hl2, hs1, h1]; first | done | with_reducible rfl)))
          | (apply WO.panicv; (case e => (simp only [go_sem, Nat.reduceEqDiff, Nat.reduceAdd, reduceIte, hc, hp, hl1, hl2, hs1, h1]; first | done | with_reducible rfl)))
          | (apply WO.ok; (case e => (simp only [go_sem, Nat.reduceEqDiff, Nat.reduceAdd, reduceIte, hc, hp, hl1, hl2, hs1, h1]; first | done | with_reducible rfl)))
          | (apply WO.guardT; (case hj => (simp only [go_sem, Nat.reduceEqDiff, Nat.reduceAdd, reduceIte, hc, hp, hl1, hl2, hs1, h1]; first | done | with_reducible rfl)))
          | (apply WO.guardF; (case hj => (simp only [go_sem, Nat.reduceEqDiff, Nat.reduceAdd, reduceIte, hc, hp, hl1, hl2, hs1, h1]; first | done | with_reducible rfl)))
          | (apply WO.guardU; (case hj => (simp only [go_sem, Nat.reduceEqDiff, Nat.reduceAdd, reduceIte, hc, hp, hl1, hl2, hs1, h1]; first | done | with_reducible rfl)))
          | refine W.skip ?_
          | refine W.ret ?_
          | refine W.exit ?_
          | refine W.block ?_
          | (apply W.branch; (case e => (simp only [go_sem, Nat.reduceEqDiff, Nat.reduceAdd, reduceIte, hc, hp, hl1, hl2, hs1, h1]; first | done | with_reducible rfl)))
          | refine WD.nil ?_
          | (apply WD.callv; (case e => (simp only [go_sem, Nat.reduceEqDiff, Nat.reduceAdd, reduceIte, hc, hp, hl1, hl2, hs1, h1]; first | done | with_reducible rfl)); (case c => (simp only [go_sem, Nat.reduceEqDiff, Nat.reduceAdd, reduceIte, hc, hp, hl1, hl2, hs1, h1]; first | done | with_reducible rfl)); (case hi => first | trivial | (simp only [nx_H]; done)); (case hc => rfl))
          | (apply WD.ok; (case e => (simp only [go_sem, Nat.reduceEqDiff, Nat.reduceAdd, reduceIte, hc, hp, hl1, hl2, hs1, h1]; first | done | with_reducible rfl)); (case hi => first | trivial | (simp only [nx_H]; done)); (case hc => first | rfl | (simp only [eqV, beq_self_eq_true, Bool.and_self, Bool.or_true, Bool.and_true, Option.isSome_some]; done)))
          | (apply WD.guardT; (case hj => (simp only [go_sem, Nat.reduceEqDiff, Nat.reduceAdd, reduceIte, hc, hp, hl1, hl2, hs1, h1]; first | done | with_reducible rfl)); (case hi => first | trivial | (simp only [nx_H]; done)))
          | (apply WD.guardF; (case hj => (simp only [go_sem, Nat.reduceEqDiff, Nat.reduceAdd, reduceIte, hc, hp, hl1, hl2, hs1, h1]; first | done | with_reducible rfl)); (case hi => first | trivial | (simp only [nx_H]; done)))
          | (apply WD.guardU; (case hj => (simp only [go_sem, Nat.reduceEqDiff, Nat.reduceAdd, reduceIte, hc, hp, hl1, hl2, hs1, h1]; first | done | with_reducible rfl)); (case hi => first | trivial | (simp only [nx_H]; done)))
          | with_reducible exact tf
          | with_reducible exact ft
          | intro _)
      exact leave0 (by (simp only [go_sem, Nat.reduceEqDiff, Nat.reduceAdd, reduceIte]; first | done | with_reducible rfl)) (res1 (by (simp only [go_sem, Nat.reduceEqDiff, Nat.reduceAdd, reduceIte]; first | done | with_reducible rfl)) (by intro c h; cases h)) (by (simp only [go_sem, Nat.reduceEqDiff, Nat.reduceAdd, reduceIte]; first | done | with_reducible rfl))
    | false =>
      rw [ha] at h1
      refine ⟨H', GK_call hxq a41_eq (by simp [a41]) ?_, hk.trans h2⟩
      unfold a41
      repeat' (first
          | refine W.seq ?_
          | refine W.wo ?_
          | refine WO.nil ?_
          | (apply WO.callv; (case e => (simp only [go_sem, Nat.reduceEqDiff, Nat.reduceAdd, reduceIte, hc, hp, hl1, hl2, hs1, h1]; first | done | with_reducible rfl)); (case c => (simp only [go_sem, Nat.reduceEqDiff, Nat.reduceAdd, reduceIte, hc, hp, hl1, hl2, hs1, h1]; first | done | with_reducible rfl)))
          | (apply WO.panicv; (case e => (simp only [go_sem, Nat.reduceEqDiff, Nat.reduceAdd, reduceIte, hc, hp, hl1, hl2, hs1, h1]; first | done | with_reducible rfl)))
          | (apply WO.ok; (case e => (simp only [go_sem, Nat.reduceEqDiff, Nat.reduceAdd, reduceIte, hc, hp, hl1, hl2, hs1, h1]; first | done | with_reducible rfl)))
          | (apply WO.guardT; (case hj => (simp only [go_sem, Nat.reduceEqDiff, Nat.reduceAdd, reduceIte, hc, hp, hl1, hl2, hs1, h1]; first | done | with_reducible rfl)))
          | (apply WO.guardF; (case hj => (simp only [go_sem, Nat.reduceEqDiff, Nat.reduceAdd, reduceIte, hc, hp, hl1, hl2, hs1, h1]; first | done | with_reducible rfl)))
          | (apply WO.guardU; (case hj => (simp only [go_sem, Nat.reduceEqDiff, Nat.reduceAdd, reduceIte, hc, hp, hl1, hl2, hs1, h1]; first | done | with_reducible rfl)))
          | refine W.skip ?_
          | refine W.ret ?_
          | refine W.exit ?_
          | refine W.block ?_
          | (apply W.branch; (case e => (simp only [go_sem, Nat.reduceEqDiff, Nat.reduceAdd, reduceIte, hc, hp, hl1, hl2, hs1, h1]; first | done | with_reducible rfl)))
          | refine WD.nil ?_
          | (apply WD.callv; (case e => (simp only [go_sem, Nat.reduceEqDiff, Nat.reduceAdd, reduceIte, hc, hp, hl1, hl2, hs1, h1]; first | done | with_reducible rfl)); (case c => (simp only [go_sem, Nat.reduceEqDiff, Nat.reduceAdd, reduceIte, hc, hp, hl1, hl2, hs1, h1]; first | done | with_reducible rfl)); (case hi => first | trivial | (simp only [nx_H]; done)); (case hc => rfl))
          | (apply WD.ok; (case e => (simp only [go_sem, Nat.reduceEqDiff, Nat.reduceAdd, reduceIte, hc, hp, hl1, hl2, hs1, h1]; first | done | with_reducible rfl)); (case hi => first | trivial | (simp only [nx_H]; done)); (case hc => first | rfl | (simp only [eqV, beq_self_eq_true, Bool.and_self, Bool.or_true, Bool.and_true, Option.isSome_some]; done)))
          | (apply WD.guardT; (case hj => (simp only [go_sem, Nat.reduceEqDiff, Nat.reduceAdd, reduceIte, hc, hp, hl1, hl2, hs1, h1]; first | done | with_reducible rfl)); (case hi => first | trivial | (simp only [nx_H]; done)))
          | (apply WD.guardF; (case hj => (simp only [go_sem, Nat.reduceEqDiff, Nat.reduceAdd, reduceIte, hc, hp, hl1, hl2, hs1, h1]; first | done | with_reducible rfl)); (case hi => first | trivial | (simp only [nx_H]; done)))
          | (apply WD.guardU; (case hj => (simp only [go_sem, Nat.reduceEqDiff, Nat.reduceAdd, reduceIte, hc, hp, hl1, hl2, hs1, h1]; first | done | with_reducible rfl)); (case hi => first | trivial | (simp only [nx_H]; done)))
          | with_reducible exact tf
          | with_reducible exact ft
          | intro _)
      exact leave0 (by (simp only [go_sem, Nat.reduceEqDiff, Nat.reduceAdd, reduceIte]; first | done | with_reducible rfl)) (res1 (by (simp only [go_sem, Nat.reduceEqDiff, Nat.reduceAdd, reduceIte]; first | done | with_reducible rfl)) (by intro c h; cases h)) (by (simp only [go_sem, Nat.reduceEqDiff, Nat.reduceAdd, reduceIte]; first | done | with_reducible rfl))
  · have hs1 : decide ((s.size : Int) > 100000) = true := by simp; omega
    rw [if_neg hs]
    refine ⟨_, GK_call hxq a41_eq (by simp [a41]) ?_, hk⟩
    unfold a41
    repeat' (first
        | refine W.seq ?_
        | refine W.wo ?_
        | refine WO.nil ?_
        | (apply WO.callv; (case e => (simp only [go_sem, Nat.reduceEqDiff, Nat.reduceAdd, reduceIte, hc, hp, hl1, hl2, hs1]; first | done | with_reducible rfl)); (case c => (simp only [go_sem, Nat.reduceEqDiff, Nat.reduceAdd, reduceIte, hc, hp, hl1, hl2, hs1]; first | done | with_reducible rfl)))
        | (apply WO.panicv; (case e => (simp only [go_sem, Nat.reduceEqDiff, Nat.reduceAdd, reduceIte, hc, hp, hl1, hl2, hs1]; first | done | with_reducible rfl)))
        | (apply WO.ok; (case e => (simp only [go_sem, Nat.reduceEqDiff, Nat.reduceAdd, reduceIte, hc, hp, hl1, hl2, hs1]; first | done | with_reducible rfl)))
        | (apply WO.guardT; (case hj => (simp only [go_sem, Nat.reduceEqDiff, Nat.reduceAdd, reduceIte, hc, hp, hl1, hl2, hs1]; first | done | with_reducible rfl)))
        | (apply WO.guardF; (case hj => (simp only [go_sem, Nat.reduceEqDiff, Nat.reduceAdd, reduceIte, hc, hp, hl1, hl2, hs1]; first | done | with_reducible rfl)))
        | (apply WO.guardU; (case hj => (simp only [go_sem, Nat.reduceEqDiff, Nat.reduceAdd, reduceIte, hc, hp, hl1, hl2, hs1]; first | done | with_reducible rfl)))
        | refine W.skip ?_
        | refine W.ret ?_
        | refine W.exit ?_
        | refine W.block ?_
        | (apply W.branch; (case e => (simp only [go_sem, Nat.reduceEqDiff, Nat.reduceAdd, reduceIte, hc, hp, hl1, hl2, hs1]; first | done | with_reducible rfl)))
        | refine WD.nil ?_
        | (apply WD.callv; (case e => (simp only [go_sem, Nat.reduceEqDiff, Nat.reduceAdd, reduceIte, hc, hp, hl1, hl2, hs1]; first | done | with_reducible rfl)); (case c => (simp only [go_sem, Nat.reduceEqDiff, Nat.reduceAdd, reduceIte, hc, hp, hl1, hl2, hs1]; first | done | with_reducible rfl)); (case hi => first | trivial | (simp only [nx_H]; done)); (case hc => rfl))
        | (apply WD.ok; (case e => (simp only [go_sem, Nat.reduceEqDiff, Nat.reduceAdd, reduceIte, hc, hp, hl1, hl2, hs1]; first | done | with_reducible rfl)); (case hi => first | trivial | (simp only [nx_H]; done)); (case hc => first | rfl | (simp only [eqV, beq_self_eq_true, Bool.and_self, Bool.or_true, Bool.and_true, Option.isSome_some]; done)))
        | (apply WD.guardT; (case hj => (simp only [go_sem, Nat.reduceEqDiff, Nat.reduceAdd, reduceIte, hc, hp, hl1, hl2, hs1]; first | done | with_reducible rfl)); (case hi => first | trivial | (simp only [nx_H]; done)))
        | (apply WD.guardF; (case hj => (simp only [go_sem, Nat.reduceEqDiff, Nat.reduceAdd, reduceIte, hc, hp, hl1, hl2, hs1]; first | done | with_reducible rfl)); (case hi => first | trivial | (simp only [nx_H]; done)))
        | (apply WD.guardU; (case hj => (simp only [go_sem, Nat.reduceEqDiff, Nat.reduceAdd, reduceIte, hc, hp, hl1, hl2, hs1]; first | done | with_reducible rfl)); (case hi => first | trivial | (simp only [nx_H]; done)))
        | with_reducible exact tf
        | with_reducible exact ft
        | intro _)
    exact leave0 (by (simp only [go_sem, Nat.reduceEqDiff, Nat.reduceAdd, reduceIte]; first | done | with_reducible rfl)) (res1 (by (simp only [go_sem, Nat.reduceEqDiff, Nat.reduceAdd, reduceIte]; first | done | with_reducible rfl)) (by intro c h; cases h)) (by (simp only [go_sem, Nat.reduceEqDiff, Nat.reduceAdd, reduceIte]; first | done | with_reducible rfl))
end
noncomputable abbrev K : Caller := KK
theorem K_call {f : Nat} {args : Array Value} {H : Hp} {fn : AFunc} {r : CR} (hf : compFunc Tryd.prog [0] f = some fn) (hn : ¬ fn.ntmps < args.size)
    (h : W K fn.body { t := enterT 0 args.toList .nil, H, ds := [], df := false, pm := none } fun ex s => match ex with
      | .normal | .ret => leave K (compFunc Tryd.prog [0]) fn.results s.ds none s = some r
      | .pan v => leave K (compFunc Tryd.prog [0]) fn.results s.ds (some v) s = some r
      | .exit _ => False) (hx : ¬ (f = 13 ∨ f = 20) := by decide) : K f args H = some r := lim_call (.inl (xo_none hx _ _)) hf hn h
theorem K66 (k i : Int) (p : Value) (H : Hp) (hp : loadO H p = some (.int .i64 i)) : K 66 #[.int .i64 k, p] H = some (.ret (.bool (decide (0 ≤ k) && decide (k < i))) H) := GK66 (fun _ a H h => xo_none h a H) k i p H hp
theorem K41 (s : ByteArray) (H : Hp) (hL : Let H) : ∃ H' : Hp, K 41 #[.int .i64 8, .string s] H = some (.ret (.int .i64 (checkS s)) H') ∧ Keep H H' := GK41 (fun _ a H h => xo_none h a H) s H hL
end Go.Proofs.YtehbekgmemebjaaDoorEv
