import Derived.Test.YtehbekgmemebjaaDoorStPure
import Derived.Test.YtehbekgmemebjaaDoorSlCode
import Derived.Laws.Strings
import Derived.RowKit
namespace Go.Proofs.YtehbekgmemebjaaDoorEv
open Go Go.RowKit
set_option linter.unusedVariables false
set_option linter.unusedSimpArgs false
attribute [local go_sem] evOp beq_true beq_false List.getElem?_toArray List.getElem?_cons_zero List.getElem?_cons_succ env_tmp env_const env_func env_global nx_get nx_getn nx_H nx_ds nx_df nx_pm get_enter one_ne_zero' zero_ne_one' if_false if_true ite_true ite_false List.getD_cons_zero List.getD_cons_succ Option.map_some Option.map_none Option.bind_some binO unO eqO List.map_toArray List.map_cons List.map_nil Array.append_empty Array.empty_append List.nil_append List.append_nil List.append_toArray List.cons_append ne_eq not_true_eq_false Bool.false_eq_true Bool.not_true Bool.not_false Bool.true_eq_false
def rd (xs : List Int) (i : Int) : Int := xs.getD i.toNat 0
def bt (s : ByteArray) (i : Int) : Int := if h : i.toNat < s.size then ((s[i.toNat]'h).toNat : Int) else 0
theorem bt_at (s : ByteArray) (i : Int) (h : i.toNat < s.size) : ((s[i.toNat]'h).toNat : Int) = bt s i := by unfold bt; rw [dif_pos h]
def isLB (c : Int) : Bool := decide (0 ≤ index c)
def bytesOf (s : ByteArray) : List Int := s.data.toList.map fun x => (x.toNat : Int)
def allLB (s : ByteArray) : Bool := (bytesOf s).all isLB
def checkS (s : ByteArray) : Int := if s.size ≤ 100000 then if allLB s = true then 0 else 4 else 2
theorem isLK_isLB (c : Int) : isLK 8 c = isLB c := by
  have h := index_range c
  unfold isLK isLB
  rw [decide_eq_true (show index c < 2 * 8 by omega), Bool.and_true]
theorem allLK_allLB (s : ByteArray) : allLK 8 s = allLB s := by
  unfold allLK allLB
  have : isLK 8 = isLB := funext isLK_isLB
  rw [this]; rfl
theorem checkK_checkS (s : ByteArray) : checkK 8 s = checkS s := by
  unfold checkK checkS
  rw [if_neg (by omega), allLK_allLB]
theorem allLB_no {s : ByteArray} {pos : Nat} (h : pos < s.size) (hb : isLB (bt s (pos : Int)) = false) : allLB s = false := by
  rw [← allLK_allLB]
  refine allLK_no h ?_
  rw [isLK_isLB, ← hb, ← bt_at s pos (by omega)]
  rfl
theorem allLB_yes {s : ByteArray} (h : ∀ j : Nat, j < s.size → isLB (bt s (j : Int)) = true) : allLB s = true := by
  rw [← allLK_allLB]
  refine allLK_yes fun j hj => ?_
  rw [isLK_isLB, ← h j hj, ← bt_at s j (by omega)]
  rfl
noncomputable abbrev K : Caller := KK
theorem K_call {f : Nat} {args : Array Value} {H : Hp} {fn : AFunc} {r : CR} (hf : compFunc Tryd.prog [0] f = some fn) (hn : ¬ fn.ntmps < args.size)
    (h : W K fn.body { t := enterT 0 args.toList .nil, H, ds := [], df := false, pm := none } fun ex s => match ex with
      | .normal | .ret => leave K (compFunc Tryd.prog [0]) fn.results s.ds none s = some r
      | .pan v => leave K (compFunc Tryd.prog [0]) fn.results s.ds (some v) s = some r
      | .exit _ => False) (hx : f ≠ 13 := by decide) : K f args H = some r := GK_call xo_none hf hn h hx
theorem K66 (k i : Int) (p : Value) (H : Hp) (hp : loadO H p = some (.int .i64 i)) : K 66 #[.int .i64 k, p] H = some (.ret (.bool (decide (0 ≤ k) && decide (k < i))) H) := by
  refine K_call a66_eq (by simp [a66]) ?_
  unfold a66
  by_cases h1 : k ≥ 0
  · have d1 : decide (k ≥ 0) = true := decide_eq_true h1
    have d2 : decide (0 ≤ k) = true := d1
    rw [d2, Bool.true_and]
    repeat' (first
        | refine W.seq ?_
        | refine W.wo ?_
        | refine WO.nil ?_
        | (apply WO.ok; (case e => (simp only [go_sem, Nat.reduceEqDiff, Nat.reduceAdd, reduceIte, hp, d1]; first | done | with_reducible rfl)))
        | (apply WO.guardT; (case hj => (simp only [go_sem, Nat.reduceEqDiff, Nat.reduceAdd, reduceIte, hp, d1]; first | done | with_reducible rfl)))
        | refine W.ret ?_
        | with_reducible exact tf
        | intro _)
    exact leave0 (by (simp only [go_sem, Nat.reduceEqDiff, Nat.reduceAdd, reduceIte]; first | done | with_reducible rfl)) (res1 (by (simp only [go_sem, Nat.reduceEqDiff, Nat.reduceAdd, reduceIte]; first | done | with_reducible rfl)) (by intro c h; cases h)) (by (simp only [go_sem, Nat.reduceEqDiff, Nat.reduceAdd, reduceIte]; first | done | with_reducible rfl))
  · have d1 : decide (k ≥ 0) = false := decide_eq_false h1
    have d2 : decide (0 ≤ k) = false := d1
    rw [d2, Bool.false_and]
    repeat' (first
        | refine W.seq ?_
        | refine W.wo ?_
        | refine WO.nil ?_
        | (apply WO.ok; (case e => (simp only [go_sem, Nat.reduceEqDiff, Nat.reduceAdd, reduceIte, hp, d1]; first | done | with_reducible rfl)))
        | (apply WO.guardT; (case hj => (simp only [go_sem, Nat.reduceEqDiff, Nat.reduceAdd, reduceIte, hp, d1]; first | done | with_reducible rfl)))
        | refine W.ret ?_
        | with_reducible exact ft
        | intro _)
    exact leave0 (by (simp only [go_sem, Nat.reduceEqDiff, Nat.reduceAdd, reduceIte]; first | done | with_reducible rfl)) (res1 (by (simp only [go_sem, Nat.reduceEqDiff, Nat.reduceAdd, reduceIte]; first | done | with_reducible rfl)) (by intro c h; cases h)) (by (simp only [go_sem, Nat.reduceEqDiff, Nat.reduceAdd, reduceIte]; first | done | with_reducible rfl))
theorem K41 (s : ByteArray) (H : Hp) (hL : GG H) : ∃ H' : Hp, K 41 #[.int .i64 8, .string s] H = some (.ret (.int .i64 (checkS s)) H') ∧ Keep H H' := by
  rw [← checkK_checkS]
  exact GK_check xo_none 8 s H hL
end Go.Proofs.YtehbekgmemebjaaDoorEv
