import Derived.Test.YtehbekgmemebjaaDoorEvX
import Derived.Test.YtehbekgmemebjaaDoorStCode
import Derived.Lib.DecodeN
namespace Go.Proofs.YtehbekgmemebjaaDoorEv
open Go
set_option linter.unusedVariables false
set_option linter.unusedSimpArgs false
attribute [local go_sem] evOp beq_true beq_false List.getElem?_toArray List.getElem?_cons_zero List.getElem?_cons_succ env_tmp env_const env_func env_global nx_get nx_getn nx_H nx_ds nx_df nx_pm get_enter one_ne_zero' zero_ne_one' if_false if_true ite_true ite_false List.getD_cons_zero List.getD_cons_succ Option.map_some Option.map_none Option.bind_some binO unO eqO List.map_toArray List.map_cons List.map_nil Array.append_empty Array.empty_append List.nil_append List.append_nil List.append_toArray List.cons_append ne_eq not_true_eq_false Bool.false_eq_true Bool.not_true Bool.not_false Bool.true_eq_false rcv_get rcv_H rcv_ds rcv_df rcv_pm dfr_get dfr_H dfr_ds dfr_df dfr_pm
def index (c : Int) : Int := if 97 ≤ c ∧ c < 105 then 2 * (c - 97) else if 65 ≤ c ∧ c < 73 then 2 * (c - 65) + 1 else -1
def lettersI : List Int := [97, 65, 98, 66, 99, 67, 100, 68, 101, 69, 102, 70, 103, 71, 104, 72]
def lettersV : List Value := [.int .u8 97, .int .u8 65, .int .u8 98, .int .u8 66, .int .u8 99, .int .u8 67, .int .u8 100, .int .u8 68, .int .u8 101, .int .u8 69, .int .u8 102, .int .u8 70, .int .u8 103, .int .u8 71, .int .u8 104, .int .u8 72]
def GG (H : Hp) : Prop := 0 < H.size ∧ ∃ u ro, H.get 0 = some (.cells lettersV u ro)
theorem index_none {c : Int} (h : ∀ j : Nat, j < 16 → lettersI.getD j 0 ≠ c) : index c = -1 := by
  have h0 : (97 : Int) ≠ c := h 0 (by omega)
  have h1 : (65 : Int) ≠ c := h 1 (by omega)
  have h2 : (98 : Int) ≠ c := h 2 (by omega)
  have h3 : (66 : Int) ≠ c := h 3 (by omega)
  have h4 : (99 : Int) ≠ c := h 4 (by omega)
  have h5 : (67 : Int) ≠ c := h 5 (by omega)
  have h6 : (100 : Int) ≠ c := h 6 (by omega)
  have h7 : (68 : Int) ≠ c := h 7 (by omega)
  have h8 : (101 : Int) ≠ c := h 8 (by omega)
  have h9 : (69 : Int) ≠ c := h 9 (by omega)
  have h10 : (102 : Int) ≠ c := h 10 (by omega)
  have h11 : (70 : Int) ≠ c := h 11 (by omega)
  have h12 : (103 : Int) ≠ c := h 12 (by omega)
  have h13 : (71 : Int) ≠ c := h 13 (by omega)
  have h14 : (104 : Int) ≠ c := h 14 (by omega)
  have h15 : (72 : Int) ≠ c := h 15 (by omega)
  unfold index
  rw [if_neg (by omega), if_neg (by omega)]
theorem index_range (c : Int) : -1 ≤ index c ∧ index c < 16 := by
  unfold index
  by_cases h1 : 97 ≤ c ∧ c < 105
  · rw [if_pos h1]; omega
  · rw [if_neg h1]
    by_cases h2 : 65 ≤ c ∧ c < 73
    · rw [if_pos h2]; omega
    · rw [if_neg h2]; omega
def bytesB (s : ByteArray) : List Int := s.data.toList.map fun b => (b.toNat : Int)
theorem bytesB_len (s : ByteArray) : (bytesB s).length = s.size := by simp [bytesB]
theorem bytesB_at (s : ByteArray) (j : Nat) (h : j < s.size) : (bytesB s)[j]? = some ((s[j]'h).toNat : Int) := by
  have h' : j < s.data.size := h
  simp only [bytesB, List.getElem?_map, Array.getElem?_toList, Array.getElem?_eq_getElem h', Option.map_some]
  rfl
def isLK (k c : Int) : Bool := decide (0 ≤ index c) && decide (index c < 2 * k)
def allLK (k : Int) (s : ByteArray) : Bool := (bytesB s).all (isLK k)
def badR (k : Int) (R : Nat) : Bool := decide (127 < R) || (decide (index (R : Int) < 0) || decide (index (R : Int) ≥ 2 * k))
theorem decode_high (s : ByteArray) (pos : Nat) (h : pos < s.size) (ha : ¬ (s[pos]'h).toNat < 128) : 127 < (Utf8.decode s pos).1 := by
  have e : s.get! pos = s[pos]'h := by
    simp [ByteArray.get!, getElem!_pos, h]
    rfl
  rw [Lib.decode_at, e]
  unfold Lib.decodeN
  rw [if_neg ha]
  repeat' split
  all_goals omega
theorem decode_low (s : ByteArray) (pos : Nat) (h : pos < s.size) (ha : (s[pos]'h).toNat < 128) : Utf8.decode s pos = ((s[pos]'h).toNat, 1) := by
  have e : s.get! pos = s[pos]'h := by
    simp [ByteArray.get!, getElem!_pos, h]
    rfl
  rw [Lib.decode_at, e]
  unfold Lib.decodeN
  rw [if_pos ha]
theorem rune_bad (k : Int) (s : ByteArray) (pos : Nat) (h : pos < s.size) : badR k (Utf8.decode s pos).1 = !isLK k ((s[pos]'h).toNat : Int) ∧ (isLK k ((s[pos]'h).toNat : Int) = true → (Utf8.decode s pos).2 = 1) := by
  by_cases ha : (s[pos]'h).toNat < 128
  · rw [decode_low s pos h ha]
    refine ⟨?_, fun _ => rfl⟩
    show badR k (s[pos]'h).toNat = _
    unfold badR isLK
    rw [decide_eq_false (by omega), Bool.false_or]
    generalize index ((s[pos]'h).toNat : Int) = d
    by_cases h1 : d < 0
    · have h3 : ¬ 0 ≤ d := by omega
      simp [h1, h3]
    · have h3 : 0 ≤ d := by omega
      by_cases h2 : d < 2 * k
      · have h4 : ¬ d ≥ 2 * k := by omega
        rw [decide_eq_false h1, decide_eq_true h3, decide_eq_true h2, decide_eq_false h4]; rfl
      · have h4 : d ≥ 2 * k := by omega
        rw [decide_eq_false h1, decide_eq_true h3, decide_eq_false h2, decide_eq_true h4]; rfl
  · have hh := decode_high s pos h ha
    have hn : isLK k ((s[pos]'h).toNat : Int) = false := by
      unfold isLK index
      rw [if_neg (by omega), if_neg (by omega)]
      rfl
    rw [hn]
    refine ⟨?_, fun hc => by cases hc⟩
    unfold badR
    rw [decide_eq_true hh]; rfl
theorem allLK_no {k : Int} {s : ByteArray} {pos : Nat} (h : pos < s.size) (hb : isLK k ((s[pos]'h).toNat : Int) = false) : allLK k s = false := by
  unfold allLK
  rw [List.all_eq_false]
  exact ⟨_, List.mem_of_getElem? (bytesB_at s pos h), by rw [hb]; decide⟩
theorem allLK_yes {k : Int} {s : ByteArray} (h : ∀ j : Nat, (hj : j < s.size) → isLK k ((s[j]'hj).toNat : Int) = true) : allLK k s = true := by
  unfold allLK
  rw [List.all_eq_true]
  intro x hx
  obtain ⟨j, hj⟩ := List.mem_iff_getElem?.1 hx
  have hl : j < s.size := by rw [← bytesB_len]; exact (List.getElem?_eq_some_iff.1 hj).1
  rw [bytesB_at s j hl] at hj
  cases hj
  exact h j hl
def checkK (k : Int) (s : ByteArray) : Int := if k < 1 ∨ 8 < k then 1 else if s.size ≤ 100000 then (if allLK k s = true then 0 else 4) else 2
theorem GK_call {xq : Caller} (hxq : ∀ f a H, f ≠ 13 → xq f a H = none) {f : Nat} {args : Array Value} {H : Hp} {fn : AFunc} {r : CR} (hf : compFunc Tryd.prog [0] f = some fn) (hn : ¬ fn.ntmps < args.size)
    (h : W (lim xq (compFunc Tryd.prog [0])) fn.body { t := enterT 0 args.toList .nil, H, ds := [], df := false, pm := none } fun ex s => match ex with
      | .normal | .ret => leave (lim xq (compFunc Tryd.prog [0])) (compFunc Tryd.prog [0]) fn.results s.ds none s = some r
      | .pan v => leave (lim xq (compFunc Tryd.prog [0])) (compFunc Tryd.prog [0]) fn.results s.ds (some v) s = some r
      | .exit _ => False) (hx : f ≠ 13 := by decide) : (lim xq (compFunc Tryd.prog [0])) f args H = some r := lim_call (.inl (hxq _ _ _ hx)) hf hn h
theorem lettersV_at : ∀ j : Nat, j < 16 → lettersV[j]? = some (.int .u8 (lettersI.getD j 0)) := fun j hj => match j, hj with
  | 0, _ => rfl
  | 1, _ => rfl
  | 2, _ => rfl
  | 3, _ => rfl
  | 4, _ => rfl
  | 5, _ => rfl
  | 6, _ => rfl
  | 7, _ => rfl
  | 8, _ => rfl
  | 9, _ => rfl
  | 10, _ => rfl
  | 11, _ => rfl
  | 12, _ => rfl
  | 13, _ => rfl
  | 14, _ => rfl
  | 15, _ => rfl
  | n + 16, h => absurd h (by omega)
theorem index_at : ∀ j : Nat, j < 16 → index (lettersI.getD j 0) = j := fun j hj => match j, hj with
  | 0, _ => rfl
  | 1, _ => rfl
  | 2, _ => rfl
  | 3, _ => rfl
  | 4, _ => rfl
  | 5, _ => rfl
  | 6, _ => rfl
  | 7, _ => rfl
  | 8, _ => rfl
  | 9, _ => rfl
  | 10, _ => rfl
  | 11, _ => rfl
  | 12, _ => rfl
  | 13, _ => rfl
  | 14, _ => rfl
  | 15, _ => rfl
  | n + 16, h => absurd h (by omega)
theorem GK_index {xq : Caller} (hxq : ∀ f a H, f ≠ 13 → xq f a H = none) (c : Int) (H : Hp) (hL : GG H) : (lim xq (compFunc Tryd.prog [0])) 46 #[.int .u8 c] H = some (.ret (.int .i64 (index c)) H) := by
  obtain ⟨_, u, ro, hL⟩ := hL
  have hld : loadAO H 16 (.pointer (some ⟨0, 0, none⟩)) = some (.agg lettersV.toArray) := by simp only [loadAO, hL]; rfl
  refine GK_call hxq a46_eq (by simp [a46]) ?_
  unfold a46
  repeat' (first
      | refine W.seq ?_
      | refine W.wo ?_
      | refine WO.nil ?_
      | (apply WO.ok; (case e => (simp only [go_sem, Nat.reduceEqDiff, Nat.reduceAdd, reduceIte, hld]; first | done | with_reducible rfl)))
      | refine W.block ?_)
  refine W.loop (fun m s => ∃ j : Nat, j ≤ 16 ∧ m = 16 - j ∧ s.get 6 = .int .i64 (j : Int) ∧ s.get 5 = .agg lettersV.toArray ∧ s.get 0 = .int .u8 c ∧ s.H = H ∧ s.ds = [] ∧ ∀ i : Nat, i < j → lettersI.getD i 0 ≠ c) 16 ⟨0, by omega, rfl, by (simp only [go_sem, Nat.reduceEqDiff, Nat.reduceAdd, reduceIte]; first | done | rfl), by (simp only [go_sem, Nat.reduceEqDiff, Nat.reduceAdd, reduceIte]; first | done | with_reducible rfl), by (simp only [go_sem, Nat.reduceEqDiff, Nat.reduceAdd, reduceIte]; first | done | with_reducible rfl), by (simp only [go_sem, Nat.reduceEqDiff, Nat.reduceAdd, reduceIte]; first | done | with_reducible rfl), by (simp only [go_sem, Nat.reduceEqDiff, Nat.reduceAdd, reduceIte]; first | done | with_reducible rfl), fun i hi => absurd hi (by omega)⟩ ?_
  rintro m s ⟨j, hj, rfl, g6, g5, g0, gH, gd, hno⟩
  by_cases hj16 : j = 16
  · subst hj16
    have hc : decide (((16 : Nat) : Int) < 16) = false := by decide
    repeat' (first
        | refine W.seq ?_
        | refine W.wo ?_
        | refine WO.nil ?_
        | (apply WO.ok; (case e => (simp only [go_sem, Nat.reduceEqDiff, Nat.reduceAdd, reduceIte, g6, g5, g0, gH, gd, hc]; first | done | with_reducible rfl)))
        | refine W.ret ?_
        | refine W.exit ?_
        | (apply W.branch; (case e => (simp only [go_sem, Nat.reduceEqDiff, Nat.reduceAdd, reduceIte, g6, g5, g0, gH, gd, hc]; first | done | with_reducible rfl)))
        | with_reducible exact ft
        | intro _)
    rw [index_none hno]
    exact leave0 (by (simp only [go_sem, Nat.reduceEqDiff, Nat.reduceAdd, reduceIte, gH, gd]; first | done | with_reducible rfl)) (res1 (by (simp only [go_sem, Nat.reduceEqDiff, Nat.reduceAdd, reduceIte, gH, gd]; first | done | with_reducible rfl)) (by intro c h; cases h)) (by (simp only [go_sem, Nat.reduceEqDiff, Nat.reduceAdd, reduceIte, gH, gd]; first | done | with_reducible rfl))
  · have hc : decide ((j : Int) < 16) = true := by simp; omega
    have hix : (0 ≤ (j : Int) ∧ (j : Int) < ((16 : Nat) : Int)) = True := by simp; omega
    have hel : lettersV.toArray[(j : Int).toNat * 1]? = some (.int .u8 (lettersI.getD j 0)) := by
      have := lettersV_at j (by omega)
      simpa using this
    have hw : IntKind.i64.wrap ((j : Int) + 1) = ((j + 1 : Nat) : Int) := by simp [IntKind.wrap, IntKind.bits, IntKind.signed]; omega
    repeat' (first
        | refine W.seq ?_
        | refine W.wo ?_
        | refine WO.nil ?_
        | (apply WO.ok; (case e => (simp only [go_sem, Nat.reduceEqDiff, Nat.reduceAdd, reduceIte, g6, g5, g0, gH, gd, hc, hix, hel, hw]; first | done | with_reducible rfl)))
        | refine W.skip ?_
        | refine W.ret ?_
        | refine W.block ?_
        | (apply W.branch; (case e => (simp only [go_sem, Nat.reduceEqDiff, Nat.reduceAdd, reduceIte, g6, g5, g0, gH, gd, hc, hix, hel, hw]; first | done | with_reducible rfl)))
        | with_reducible exact tf
        | intro _)
    · rename_i he
      have : index c = j := by
        rw [← eq_of_beq he]
        exact index_at j (by omega)
      rw [this]
      exact leave0 (by (simp only [go_sem, Nat.reduceEqDiff, Nat.reduceAdd, reduceIte, gH, gd]; first | done | with_reducible rfl)) (res1 (by (simp only [go_sem, Nat.reduceEqDiff, Nat.reduceAdd, reduceIte, gH, gd]; first | done | with_reducible rfl)) (by intro c h; cases h)) (by (simp only [go_sem, Nat.reduceEqDiff, Nat.reduceAdd, reduceIte, gH, gd]; first | done | with_reducible rfl))
    · rename_i he
      refine ⟨16 - (j + 1), by omega, j + 1, by omega, rfl, by (simp only [go_sem, Nat.reduceEqDiff, Nat.reduceAdd, reduceIte, g6, gH]; first | done | with_reducible rfl), by (simp only [go_sem, Nat.reduceEqDiff, Nat.reduceAdd, reduceIte, g5, gH]; first | done | with_reducible rfl), by (simp only [go_sem, Nat.reduceEqDiff, Nat.reduceAdd, reduceIte, g0]; first | done | with_reducible rfl), by (simp only [go_sem, Nat.reduceEqDiff, Nat.reduceAdd, reduceIte, gH]; first | done | with_reducible rfl), by (simp only [go_sem, Nat.reduceEqDiff, Nat.reduceAdd, reduceIte, gd]; first | done | with_reducible rfl), fun i hi => ?_⟩
      by_cases hij : i = j
      · subst hij
        intro h0
        rw [h0] at he
        simp at he
      · exact hno i (by omega)
theorem GK_bad {xq : Caller} (hxq : ∀ f a H, f ≠ 13 → xq f a H = none) (k : Int) (hk : 1 ≤ k ∧ k ≤ 8) (R : Nat) (p : Value) (H : Hp) (hL : GG H) (hp : loadO H p = some (.int .i64 k)) : (lim xq (compFunc Tryd.prog [0])) 61 #[.int .i32 (R : Int), p] H = some (.ret (.bool (badR k R)) H) := by
  have h46 : ∀ c, (lim xq (compFunc Tryd.prog [0])) 46 #[.int .u8 c] H = some (.ret (.int .i64 (index c)) H) := fun c => GK_index hxq c H hL
  refine GK_call hxq a61_eq (by simp [a61]) ?_
  unfold a61
  by_cases h1 : 127 < R
  · have hb : badR k R = true := by unfold badR; simp [h1]
    rw [hb]
    have d1 : decide ((R : Int) > 127) = true := by simp; omega
    repeat' (first
        | refine W.seq ?_
        | refine W.wo ?_
        | refine WO.nil ?_
        | (apply WO.ok; (case e => (simp only [go_sem, Nat.reduceEqDiff, Nat.reduceAdd, reduceIte]; first | done | with_reducible rfl))))
    apply W.wq
    case hg => kernel_rfl
    repeat' (first
        | refine W.ret ?_
        | refine WD.nil ?_
        | (apply WD.ok; (case e => (simp only [go_sem, Nat.reduceEqDiff, Nat.reduceAdd, reduceIte, d1]; first | done | with_reducible rfl)); (case hi => first | trivial | (simp only [nx_H]; done)); (case hc => first | rfl | (simp only [eqV, beq_self_eq_true, Bool.and_self, Bool.or_true, Bool.and_true, Option.isSome_some]; done)))
        | (apply WD.guardF; (case hj => (simp only [go_sem, Nat.reduceEqDiff, Nat.reduceAdd, reduceIte, d1]; first | done | with_reducible rfl)); (case hi => first | trivial | (simp only [nx_H]; done)))
        | with_reducible exact tf
        | intro _)
    exact leave0 (by (simp only [go_sem, Nat.reduceEqDiff, Nat.reduceAdd, reduceIte]; first | done | with_reducible rfl)) (res1 (by (simp only [go_sem, Nat.reduceEqDiff, Nat.reduceAdd, reduceIte]; first | done | with_reducible rfl)) (by intro c h; cases h)) (by (simp only [go_sem, Nat.reduceEqDiff, Nat.reduceAdd, reduceIte]; first | done | with_reducible rfl))
  · have hw : IntKind.u8.wrap (R : Int) = (R : Int) := by simp [IntKind.wrap, IntKind.bits, IntKind.signed]; omega
    have d1 : decide ((R : Int) > 127) = false := by simp; omega
    have hr := index_range (R : Int)
    have hwk : IntKind.i64.wrap (2 * k) = 2 * k := by simp [IntKind.wrap, IntKind.bits, IntKind.signed]; omega
    by_cases h2 : index (R : Int) < 0
    · have hb : badR k R = true := by unfold badR; simp [h1, h2]
      rw [hb]
      have d2 : decide (index (R : Int) < 0) = true := by simp [h2]
      repeat' (first
          | refine W.seq ?_
          | refine W.wo ?_
          | refine WO.nil ?_
          | (apply WO.ok; (case e => (simp only [go_sem, Nat.reduceEqDiff, Nat.reduceAdd, reduceIte]; first | done | with_reducible rfl))))
      apply W.wq
      case hg => kernel_rfl
      repeat' (first
          | refine W.ret ?_
          | refine WD.nil ?_
          | (apply WD.callv; (case e => (simp only [go_sem, Nat.reduceEqDiff, Nat.reduceAdd, reduceIte, d1, hw, h46, d2]; first | done | with_reducible rfl)); (case c => (simp only [go_sem, Nat.reduceEqDiff, Nat.reduceAdd, reduceIte, d1, hw, h46, d2]; first | done | with_reducible rfl)); (case hi => first | trivial | (simp only [nx_H]; done)); (case hc => rfl))
          | (apply WD.ok; (case e => (simp only [go_sem, Nat.reduceEqDiff, Nat.reduceAdd, reduceIte, d1, hw, h46, d2]; first | done | with_reducible rfl)); (case hi => first | trivial | (simp only [nx_H]; done)); (case hc => first | rfl | (simp only [eqV, beq_self_eq_true, Bool.and_self, Bool.or_true, Bool.and_true, Option.isSome_some]; done)))
          | (apply WD.guardF; (case hj => (simp only [go_sem, Nat.reduceEqDiff, Nat.reduceAdd, reduceIte, d1, hw, h46, d2]; first | done | with_reducible rfl)); (case hi => first | trivial | (simp only [nx_H]; done)))
          | with_reducible exact tf
          | with_reducible exact ft
          | intro _)
      exact leave0 (by (simp only [go_sem, Nat.reduceEqDiff, Nat.reduceAdd, reduceIte]; first | done | with_reducible rfl)) (res1 (by (simp only [go_sem, Nat.reduceEqDiff, Nat.reduceAdd, reduceIte]; first | done | with_reducible rfl)) (by intro c h; cases h)) (by (simp only [go_sem, Nat.reduceEqDiff, Nat.reduceAdd, reduceIte]; first | done | with_reducible rfl))
    · have d2 : decide (index (R : Int) < 0) = false := by simp; omega
      by_cases h3 : index (R : Int) ≥ 2 * k
      · have hb : badR k R = true := by unfold badR; simp [h1, h2]; omega
        have d3 : decide (index (R : Int) ≥ IntKind.i64.wrap (2 * k)) = true := by rw [hwk]; simp; omega
        rw [hb]
        repeat' (first
            | refine W.seq ?_
            | refine W.wo ?_
            | refine WO.nil ?_
            | (apply WO.ok; (case e => (simp only [go_sem, Nat.reduceEqDiff, Nat.reduceAdd, reduceIte]; first | done | with_reducible rfl))))
        apply W.wq
        case hg => kernel_rfl
        repeat' (first
            | refine W.ret ?_
            | refine WD.nil ?_
            | (apply WD.callv; (case e => (simp only [go_sem, Nat.reduceEqDiff, Nat.reduceAdd, reduceIte, d1, hw, h46, d2, d3, hp]; first | done | with_reducible rfl)); (case c => (simp only [go_sem, Nat.reduceEqDiff, Nat.reduceAdd, reduceIte, d1, hw, h46, d2, d3, hp]; first | done | with_reducible rfl)); (case hi => first | trivial | (simp only [nx_H]; done)); (case hc => rfl))
            | (apply WD.ok; (case e => (simp only [go_sem, Nat.reduceEqDiff, Nat.reduceAdd, reduceIte, d1, hw, h46, d2, d3, hp]; first | done | with_reducible rfl)); (case hi => first | trivial | (simp only [nx_H]; done)); (case hc => first | rfl | (simp only [eqV, beq_self_eq_true, Bool.and_self, Bool.or_true, Bool.and_true, Option.isSome_some]; done)))
            | (apply WD.guardF; (case hj => (simp only [go_sem, Nat.reduceEqDiff, Nat.reduceAdd, reduceIte, d1, hw, h46, d2, d3, hp]; first | done | with_reducible rfl)); (case hi => first | trivial | (simp only [nx_H]; done)))
            | with_reducible exact ft
            | intro _)
        exact leave0 (by (simp only [go_sem, Nat.reduceEqDiff, Nat.reduceAdd, reduceIte]; first | done | with_reducible rfl)) (res1 (by (simp only [go_sem, Nat.reduceEqDiff, Nat.reduceAdd, reduceIte]; first | done | with_reducible rfl)) (by intro c h; cases h)) (by (simp only [go_sem, Nat.reduceEqDiff, Nat.reduceAdd, reduceIte]; first | done | with_reducible rfl))
      · have hb : badR k R = false := by unfold badR; simp [h1, h2]; omega
        have d3 : decide (index (R : Int) ≥ IntKind.i64.wrap (2 * k)) = false := by rw [hwk]; simp; omega
        rw [hb]
        repeat' (first
            | refine W.seq ?_
            | refine W.wo ?_
            | refine WO.nil ?_
            | (apply WO.ok; (case e => (simp only [go_sem, Nat.reduceEqDiff, Nat.reduceAdd, reduceIte]; first | done | with_reducible rfl))))
        apply W.wq
        case hg => kernel_rfl
        repeat' (first
            | refine W.ret ?_
            | refine WD.nil ?_
            | (apply WD.callv; (case e => (simp only [go_sem, Nat.reduceEqDiff, Nat.reduceAdd, reduceIte, d1, hw, h46, d2, d3, hp]; first | done | with_reducible rfl)); (case c => (simp only [go_sem, Nat.reduceEqDiff, Nat.reduceAdd, reduceIte, d1, hw, h46, d2, d3, hp]; first | done | with_reducible rfl)); (case hi => first | trivial | (simp only [nx_H]; done)); (case hc => rfl))
            | (apply WD.ok; (case e => (simp only [go_sem, Nat.reduceEqDiff, Nat.reduceAdd, reduceIte, d1, hw, h46, d2, d3, hp]; first | done | with_reducible rfl)); (case hi => first | trivial | (simp only [nx_H]; done)); (case hc => first | rfl | (simp only [eqV, beq_self_eq_true, Bool.and_self, Bool.or_true, Bool.and_true, Option.isSome_some]; done)))
            | (apply WD.guardF; (case hj => (simp only [go_sem, Nat.reduceEqDiff, Nat.reduceAdd, reduceIte, d1, hw, h46, d2, d3, hp]; first | done | with_reducible rfl)); (case hi => first | trivial | (simp only [nx_H]; done)))
            | with_reducible exact ft
            | intro _)
        exact leave0 (by (simp only [go_sem, Nat.reduceEqDiff, Nat.reduceAdd, reduceIte]; first | done | with_reducible rfl)) (res1 (by (simp only [go_sem, Nat.reduceEqDiff, Nat.reduceAdd, reduceIte]; first | done | with_reducible rfl)) (by intro c h; cases h)) (by (simp only [go_sem, Nat.reduceEqDiff, Nat.reduceAdd, reduceIte]; first | done | with_reducible rfl))
def Keep (H H' : Hp) : Prop := H.size ≤ H'.size ∧ ∀ b, b < H.size → H'.get b = H.get b
theorem Keep.refl (H : Hp) : Keep H H := ⟨Nat.le_refl _, fun _ _ => rfl⟩
theorem Keep.trans {a b c : Hp} (h : Keep a b) (k : Keep b c) : Keep a c := ⟨Nat.le_trans h.1 k.1, fun x hx => (k.2 x (by have := h.1; omega)).trans (h.2 x hx)⟩
theorem Keep.new (H : Hp) (o : AObj) : Keep H (H.new o) := ⟨by rw [Hp.size_new]; omega, fun b hb => by rw [Hp.get_new, if_neg (by omega)]⟩
theorem Keep.put {H H' : Hp} (h : Keep H H') {b : Nat} (hb : H.size ≤ b) (o : AObj) : Keep H (H'.put b o) := ⟨h.1, fun x hx => by rw [Hp.get_put, if_neg (by omega)]; exact h.2 x hx⟩
theorem GG.keep {H H' : Hp} (h : GG H) (k : Keep H H') : GG H' := by
  obtain ⟨h0, u, ro, h⟩ := h
  exact ⟨by have := k.1; omega, u, ro, by rw [k.2 0 h0]; exact h⟩
theorem loadO_keep {H H' : Hp} (k : Keep H H') {b o : Nat} (hb : b < H.size) : loadO H' (.pointer (some ⟨b, o, none⟩)) = loadO H (.pointer (some ⟨b, o, none⟩)) := by
  simp only [loadO, k.2 b hb]
theorem GK_ixf {xq : Caller} (hxq : ∀ f a H, f ≠ 13 → xq f a H = none) (k : Int) (hk : 1 ≤ k ∧ k ≤ 8) (B : Nat) (s : ByteArray) (H : Hp) (hL : GG H) (hB : B < H.size) (hp : loadO H (.pointer (some ⟨B, 0, none⟩)) = some (.int .i64 k)) :
    ∃ (i : Int) (H' : Hp), (lim xq (compFunc Tryd.prog [0])) 85 #[.string s, .func (.func 61) #[] #[.pointer (some ⟨B, 0, none⟩)], .bool true] H = some (.ret (.int .i64 i) H') ∧ decide (0 ≤ i) = !allLK k s ∧ Keep H H' := by
  suffices hx : W (lim xq (compFunc Tryd.prog [0])) a85.body { t := enterT 0 #[.string s, .func (.func 61) #[] #[.pointer (some ⟨B, 0, none⟩)], .bool true].toList .nil, H, ds := [], df := false, pm := none } fun ex st => ex = .ret ∧ st.ds = [] ∧ ∃ i : Int, st.get 6 = .int .i64 i ∧ decide (0 ≤ i) = !allLK k s ∧ Keep H st.H by
    unfold W at hx
    obtain ⟨n, ex, st, h1, rfl, h2, i, h3, h4, h5⟩ := hx
    refine ⟨i, st.H, GK_call hxq a85_eq (by simp [a85]) ?_, h4, h5⟩
    unfold W
    exact ⟨n, .ret, st, h1, leave0 h2 (res1 h3 (by intro c h; cases h)) rfl⟩
  unfold a85
  repeat' (first
      | refine W.seq ?_
      | refine W.wo ?_
      | refine WO.nil ?_
      | (apply WO.ok; (case e => (simp only [go_sem, Nat.reduceEqDiff, Nat.reduceAdd, reduceIte]; first | done | with_reducible rfl)))
      | refine W.block ?_)
  refine W.loop (fun m st => ∃ pos : Nat, m = s.size - pos ∧ st.get 10 = .pointer (some ⟨H.size, 0, none⟩) ∧ st.get 1 = .func (.func 61) #[] #[.pointer (some ⟨B, 0, none⟩)] ∧ st.get 2 = .bool true ∧ st.ds = [] ∧ st.H.get H.size = some (.iter s pos) ∧ Keep H st.H ∧ ∀ j : Nat, j < pos → (hj : j < s.size) → isLK k ((s[j]'hj).toNat : Int) = true) s.size ⟨0, by omega, by (simp only [go_sem, Nat.reduceEqDiff, Nat.reduceAdd, reduceIte]; first | done | with_reducible rfl), by (simp only [go_sem, Nat.reduceEqDiff, Nat.reduceAdd, reduceIte]; first | done | with_reducible rfl), by (simp only [go_sem, Nat.reduceEqDiff, Nat.reduceAdd, reduceIte]; first | done | with_reducible rfl), by (simp only [go_sem, Nat.reduceEqDiff, Nat.reduceAdd, reduceIte]; first | done | with_reducible rfl), by simp only [nx_H, Hp.get_new, if_true], by simp only [nx_H]; exact Keep.new _ _, fun i hi => absurd hi (by omega)⟩ ?_
  rintro m st ⟨pos, rfl, g10, g1, g2, gd, gi, gk, hno⟩
  by_cases hps : pos < s.size
  · obtain ⟨hbad, hone⟩ := rune_bad k s pos hps
    obtain ⟨R, hR⟩ : ∃ R, (Utf8.decode s pos).1 = R := ⟨_, rfl⟩
    obtain ⟨D, hD⟩ : ∃ D, (Utf8.decode s pos).2 = D := ⟨_, rfl⟩
    rw [hR] at hbad
    rw [hD] at hone
    have k1 : Keep H (st.H.put H.size (.iter s (pos + D))) := gk.put (Nat.le_refl _) _
    have h61 := GK_bad hxq k hk R (.pointer (some ⟨B, 0, none⟩)) _ (hL.keep k1) ((loadO_keep k1 hB).trans hp)
    rw [hbad] at h61
    cases hl : isLK k ((s[pos]'hps).toNat : Int) with
    | true =>
      rw [hl] at h61
      obtain rfl := hone hl
      repeat' (first
          | refine W.seq ?_
          | refine W.wo ?_
          | refine WO.nil ?_
          | (apply WO.callv; (case e => (simp only [go_sem, Nat.reduceEqDiff, Nat.reduceAdd, reduceIte, g10, g1, g2, gi, hps, hR, hD, h61, List.getElem?_toArray, List.getElem?_cons_zero, List.getElem?_cons_succ]; first | done | with_reducible rfl)); (case c => (simp only [go_sem, Nat.reduceEqDiff, Nat.reduceAdd, reduceIte, g10, g1, g2, gi, hps, hR, hD, h61, List.getElem?_toArray, List.getElem?_cons_zero, List.getElem?_cons_succ]; first | done | with_reducible rfl)))
          | (apply WO.ok; (case e => (simp only [go_sem, Nat.reduceEqDiff, Nat.reduceAdd, reduceIte, g10, g1, g2, gi, hps, hR, hD, h61, List.getElem?_toArray, List.getElem?_cons_zero, List.getElem?_cons_succ]; first | done | with_reducible rfl)))
          | refine W.skip ?_
          | refine W.block ?_
          | (apply W.branch; (case e => (simp only [go_sem, Nat.reduceEqDiff, Nat.reduceAdd, reduceIte, g10, g1, g2, gi, hps, hR, hD, h61, List.getElem?_toArray, List.getElem?_cons_zero, List.getElem?_cons_succ]; first | done | with_reducible rfl)))
          | with_reducible exact tf
          | with_reducible exact ft
          | intro _)
      refine ⟨s.size - (pos + 1), by omega, pos + 1, rfl, by (simp only [go_sem, Nat.reduceEqDiff, Nat.reduceAdd, reduceIte, g10]; first | done | with_reducible rfl), by (simp only [go_sem, Nat.reduceEqDiff, Nat.reduceAdd, reduceIte, g1]; first | done | with_reducible rfl), by (simp only [go_sem, Nat.reduceEqDiff, Nat.reduceAdd, reduceIte, g2]; first | done | with_reducible rfl), by (simp only [go_sem, Nat.reduceEqDiff, Nat.reduceAdd, reduceIte, gd]; first | done | with_reducible rfl), by simp only [nx_H, Hp.get_put, if_true], by simp only [nx_H]; exact k1, fun j hj hjs => ?_⟩
      by_cases hj' : j < pos
      · exact hno j hj' hjs
      · obtain rfl : j = pos := by omega
        exact hl
    | false =>
      rw [hl] at h61
      repeat' (first
          | refine W.seq ?_
          | refine W.wo ?_
          | refine WO.nil ?_
          | (apply WO.callv; (case e => (simp only [go_sem, Nat.reduceEqDiff, Nat.reduceAdd, reduceIte, g10, g1, g2, gi, hps, hR, hD, h61, List.getElem?_toArray, List.getElem?_cons_zero, List.getElem?_cons_succ]; first | done | with_reducible rfl)); (case c => (simp only [go_sem, Nat.reduceEqDiff, Nat.reduceAdd, reduceIte, g10, g1, g2, gi, hps, hR, hD, h61, List.getElem?_toArray, List.getElem?_cons_zero, List.getElem?_cons_succ]; first | done | with_reducible rfl)))
          | (apply WO.ok; (case e => (simp only [go_sem, Nat.reduceEqDiff, Nat.reduceAdd, reduceIte, g10, g1, g2, gi, hps, hR, hD, h61, List.getElem?_toArray, List.getElem?_cons_zero, List.getElem?_cons_succ]; first | done | with_reducible rfl)))
          | refine W.skip ?_
          | refine W.ret ?_
          | refine W.block ?_
          | (apply W.branch; (case e => (simp only [go_sem, Nat.reduceEqDiff, Nat.reduceAdd, reduceIte, g10, g1, g2, gi, hps, hR, hD, h61, List.getElem?_toArray, List.getElem?_cons_zero, List.getElem?_cons_succ]; first | done | with_reducible rfl)))
          | with_reducible exact tf
          | intro _)
      exact ⟨rfl, by (simp only [go_sem, Nat.reduceEqDiff, Nat.reduceAdd, reduceIte, gd]; first | done | with_reducible rfl), pos, by (simp only [go_sem, Nat.reduceEqDiff, Nat.reduceAdd, reduceIte]; first | done | with_reducible rfl), by rw [allLK_no hps hl]; simp, by simp only [nx_H]; exact k1⟩
  · have hyes := allLK_yes (k := k) (s := s) (fun j hj => hno j (by omega) hj)
    repeat' (first
        | refine W.seq ?_
        | refine W.wo ?_
        | refine WO.nil ?_
        | (apply WO.ok; (case e => (simp only [go_sem, Nat.reduceEqDiff, Nat.reduceAdd, reduceIte, g10, g1, g2, gi, hps, List.getElem?_toArray, List.getElem?_cons_zero, List.getElem?_cons_succ]; first | done | with_reducible rfl)))
        | refine W.ret ?_
        | refine W.exit ?_
        | (apply W.branch; (case e => (simp only [go_sem, Nat.reduceEqDiff, Nat.reduceAdd, reduceIte, g10, g1, g2, gi, hps, List.getElem?_toArray, List.getElem?_cons_zero, List.getElem?_cons_succ]; first | done | with_reducible rfl)))
        | with_reducible exact ft
        | intro _)
    exact ⟨rfl, by (simp only [go_sem, Nat.reduceEqDiff, Nat.reduceAdd, reduceIte, gd]; first | done | with_reducible rfl), -1, by (simp only [go_sem, Nat.reduceEqDiff, Nat.reduceAdd, reduceIte]; first | done | with_reducible rfl), by rw [hyes]; rfl, by simp only [nx_H]; exact gk⟩
theorem GK_Ixf {xq : Caller} (hxq : ∀ f a H, f ≠ 13 → xq f a H = none) (k : Int) (hk : 1 ≤ k ∧ k ≤ 8) (B : Nat) (s : ByteArray) (H : Hp) (hL : GG H) (hB : B < H.size) (hp : loadO H (.pointer (some ⟨B, 0, none⟩)) = some (.int .i64 k)) :
    ∃ (i : Int) (H' : Hp), (lim xq (compFunc Tryd.prog [0])) 82 #[.string s, .func (.func 61) #[] #[.pointer (some ⟨B, 0, none⟩)]] H = some (.ret (.int .i64 i) H') ∧ decide (0 ≤ i) = !allLK k s ∧ Keep H H' := by
  obtain ⟨i, H', h1, h2, h3⟩ := GK_ixf hxq k hk B s H hL hB hp
  refine ⟨i, H', GK_call hxq a82_eq (by simp [a82]) ?_, h2, h3⟩
  unfold a82
  repeat' (first
      | refine W.seq ?_
      | refine W.wo ?_
      | refine WO.nil ?_
      | (apply WO.callv; (case e => (simp only [go_sem, Nat.reduceEqDiff, Nat.reduceAdd, reduceIte, h1]; first | done | with_reducible rfl)); (case c => (simp only [go_sem, Nat.reduceEqDiff, Nat.reduceAdd, reduceIte, h1]; first | done | with_reducible rfl)))
      | (apply WO.ok; (case e => (simp only [go_sem, Nat.reduceEqDiff, Nat.reduceAdd, reduceIte, h1]; first | done | with_reducible rfl)))
      | refine W.ret ?_)
  exact leave0 (by (simp only [go_sem, Nat.reduceEqDiff, Nat.reduceAdd, reduceIte]; first | done | with_reducible rfl)) (res1 (by (simp only [go_sem, Nat.reduceEqDiff, Nat.reduceAdd, reduceIte]; first | done | with_reducible rfl)) (by intro c h; cases h)) (by (simp only [go_sem, Nat.reduceEqDiff, Nat.reduceAdd, reduceIte]; first | done | with_reducible rfl))
theorem GK_cont {xq : Caller} (hxq : ∀ f a H, f ≠ 13 → xq f a H = none) (k : Int) (hk : 1 ≤ k ∧ k ≤ 8) (B : Nat) (s : ByteArray) (H : Hp) (hL : GG H) (hB : B < H.size) (hp : loadO H (.pointer (some ⟨B, 0, none⟩)) = some (.int .i64 k)) :
    ∃ H' : Hp, (lim xq (compFunc Tryd.prog [0])) 60 #[.string s, .func (.func 61) #[] #[.pointer (some ⟨B, 0, none⟩)]] H = some (.ret (.bool (!allLK k s)) H') ∧ Keep H H' := by
  obtain ⟨i, H', h1, h2, h3⟩ := GK_Ixf hxq k hk B s H hL hB hp
  refine ⟨H', GK_call hxq a60_eq (by simp [a60]) ?_, h3⟩
  rw [← h2]
  unfold a60
  repeat' (first
      | refine W.seq ?_
      | refine W.wo ?_
      | refine WO.nil ?_
      | (apply WO.callv; (case e => (simp only [go_sem, Nat.reduceEqDiff, Nat.reduceAdd, reduceIte, h1]; first | done | with_reducible rfl)); (case c => (simp only [go_sem, Nat.reduceEqDiff, Nat.reduceAdd, reduceIte, h1]; first | done | with_reducible rfl)))
      | (apply WO.ok; (case e => (simp only [go_sem, Nat.reduceEqDiff, Nat.reduceAdd, reduceIte, h1]; first | done | with_reducible rfl)))
      | refine W.ret ?_)
  exact leave0 (by (simp only [go_sem, Nat.reduceEqDiff, Nat.reduceAdd, reduceIte]; first | done | with_reducible rfl)) (res1 (by (simp only [go_sem, Nat.reduceEqDiff, Nat.reduceAdd, reduceIte]; first | done | with_reducible rfl)) (by intro c h; cases h)) (by (simp only [go_sem, Nat.reduceEqDiff, Nat.reduceAdd, reduceIte]; first | done | with_reducible rfl))
theorem GK_check {xq : Caller} (hxq : ∀ f a H, f ≠ 13 → xq f a H = none) (k : Int) (s : ByteArray) (H : Hp) (hL : GG H) : ∃ H' : Hp, (lim xq (compFunc Tryd.prog [0])) 41 #[.int .i64 k, .string s] H = some (.ret (.int .i64 (checkK k s)) H') ∧ Keep H H' := by
  have hk := Keep.new H (.cells [.int .i64 k] ⟨0, 3, true⟩ false)
  have hp : loadO (H.new (.cells [.int .i64 k] ⟨0, 3, true⟩ false)) (.pointer (some ⟨H.size, 0, none⟩)) = some (.int .i64 k) := by simp only [loadO, Hp.get_new, if_true]; rfl
  have hc : (Value.int .i64 k).cells.toList = [.int .i64 k] := rfl
  by_cases hb1 : k < 1
  · have hl1 : decide (k < 1) = true := decide_eq_true hb1
    have hr : checkK k s = 1 := by unfold checkK; rw [if_pos (.inl hb1)]
    rw [hr]
    refine ⟨_, GK_call hxq a41_eq (by simp [a41]) ?_, hk⟩
    unfold a41
    repeat' (first
        | refine W.seq ?_
        | refine W.wo ?_
        | refine WO.nil ?_
        | (apply WO.ok; (case e => (simp only [go_sem, Nat.reduceEqDiff, Nat.reduceAdd, reduceIte, hc, hp, hl1]; first | done | with_reducible rfl)))
        | (apply WO.guardF; (case hj => (simp only [go_sem, Nat.reduceEqDiff, Nat.reduceAdd, reduceIte, hc, hp, hl1]; first | done | with_reducible rfl)))
        | refine W.ret ?_
        | refine W.block ?_
        | (apply W.branch; (case e => (simp only [go_sem, Nat.reduceEqDiff, Nat.reduceAdd, reduceIte, hc, hp, hl1]; first | done | with_reducible rfl)))
        | with_reducible exact tf
        | intro _)
    exact leave0 (by (simp only [go_sem, Nat.reduceEqDiff, Nat.reduceAdd, reduceIte]; first | done | with_reducible rfl)) (res1 (by (simp only [go_sem, Nat.reduceEqDiff, Nat.reduceAdd, reduceIte]; first | done | with_reducible rfl)) (by intro c h; cases h)) (by (simp only [go_sem, Nat.reduceEqDiff, Nat.reduceAdd, reduceIte]; first | done | with_reducible rfl))
  have hl1 : decide (k < 1) = false := decide_eq_false hb1
  by_cases hb2 : 8 < k
  · have hl2 : decide (k > 8) = true := decide_eq_true hb2
    have hr : checkK k s = 1 := by unfold checkK; rw [if_pos (.inr hb2)]
    rw [hr]
    refine ⟨_, GK_call hxq a41_eq (by simp [a41]) ?_, hk⟩
    unfold a41
    repeat' (first
        | refine W.seq ?_
        | refine W.wo ?_
        | refine WO.nil ?_
        | (apply WO.ok; (case e => (simp only [go_sem, Nat.reduceEqDiff, Nat.reduceAdd, reduceIte, hc, hp, hl1, hl2]; first | done | with_reducible rfl)))
        | (apply WO.guardF; (case hj => (simp only [go_sem, Nat.reduceEqDiff, Nat.reduceAdd, reduceIte, hc, hp, hl1, hl2]; first | done | with_reducible rfl)))
        | refine W.ret ?_
        | refine W.block ?_
        | (apply W.branch; (case e => (simp only [go_sem, Nat.reduceEqDiff, Nat.reduceAdd, reduceIte, hc, hp, hl1, hl2]; first | done | with_reducible rfl)))
        | with_reducible exact tf
        | with_reducible exact ft
        | intro _)
    exact leave0 (by (simp only [go_sem, Nat.reduceEqDiff, Nat.reduceAdd, reduceIte]; first | done | with_reducible rfl)) (res1 (by (simp only [go_sem, Nat.reduceEqDiff, Nat.reduceAdd, reduceIte]; first | done | with_reducible rfl)) (by intro c h; cases h)) (by (simp only [go_sem, Nat.reduceEqDiff, Nat.reduceAdd, reduceIte]; first | done | with_reducible rfl))
  have hl2 : decide (k > 8) = false := decide_eq_false hb2
  have hr0 : checkK k s = if s.size ≤ 100000 then (if allLK k s = true then 0 else 4) else 2 := by unfold checkK; rw [if_neg (by omega)]
  rw [hr0]
  obtain ⟨H', h1, h2⟩ := GK_cont hxq k ⟨by omega, by omega⟩ H.size s _ (hL.keep hk) (by rw [Hp.size_new]; omega) hp
  by_cases hs : s.size ≤ 100000
  · have hs1 : decide ((s.size : Int) > 100000) = false := by simp; omega
    rw [if_pos hs]
    cases ha : allLK k s with
    | true =>
      rw [ha] at h1
      refine ⟨H', GK_call hxq a41_eq (by simp [a41]) ?_, hk.trans h2⟩
      unfold a41
      repeat' (first
          | refine W.seq ?_
          | refine W.wo ?_
          | refine WO.nil ?_
          | (apply WO.callv; (case e => (simp only [go_sem, Nat.reduceEqDiff, Nat.reduceAdd, reduceIte, hc, hp, hl1, hl2, hs1, h1]; first | done | with_reducible rfl)); (case c => (simp only [go_sem, Nat.reduceEqDiff, Nat.reduceAdd, reduceIte, hc, hp, hl1, hl2, hs1, h1]; first | done | with_reducible rfl)))
          | (apply WO.ok; (case e => (simp only [go_sem, Nat.reduceEqDiff, Nat.reduceAdd, reduceIte, hc, hp, hl1, hl2, hs1, h1]; first | done | with_reducible rfl)))
          | (apply WO.guardF; (case hj => (simp only [go_sem, Nat.reduceEqDiff, Nat.reduceAdd, reduceIte, hc, hp, hl1, hl2, hs1, h1]; first | done | with_reducible rfl)))
          | refine W.skip ?_
          | refine W.ret ?_
          | refine W.block ?_
          | (apply W.branch; (case e => (simp only [go_sem, Nat.reduceEqDiff, Nat.reduceAdd, reduceIte, hc, hp, hl1, hl2, hs1, h1]; first | done | with_reducible rfl)))
          | with_reducible exact ft
          | intro _)
      exact leave0 (by (simp only [go_sem, Nat.reduceEqDiff, Nat.reduceAdd, reduceIte]; first | done | with_reducible rfl)) (res1 (by (simp only [go_sem, Nat.reduceEqDiff, Nat.reduceAdd, reduceIte]; first | done | with_reducible rfl)) (by intro c h; cases h)) (by (simp only [go_sem, Nat.reduceEqDiff, Nat.reduceAdd, reduceIte]; first | done | with_reducible rfl))
    | false =>
      rw [ha] at h1
      refine ⟨H', GK_call hxq a41_eq (by simp [a41]) ?_, hk.trans h2⟩
      unfold a41
      repeat' (first
          | refine W.seq ?_
          | refine W.wo ?_
          | refine WO.nil ?_
          | (apply WO.callv; (case e => (simp only [go_sem, Nat.reduceEqDiff, Nat.reduceAdd, reduceIte, hc, hp, hl1, hl2, hs1, h1]; first | done | with_reducible rfl)); (case c => (simp only [go_sem, Nat.reduceEqDiff, Nat.reduceAdd, reduceIte, hc, hp, hl1, hl2, hs1, h1]; first | done | with_reducible rfl)))
          | (apply WO.ok; (case e => (simp only [go_sem, Nat.reduceEqDiff, Nat.reduceAdd, reduceIte, hc, hp, hl1, hl2, hs1, h1]; first | done | with_reducible rfl)))
          | (apply WO.guardF; (case hj => (simp only [go_sem, Nat.reduceEqDiff, Nat.reduceAdd, reduceIte, hc, hp, hl1, hl2, hs1, h1]; first | done | with_reducible rfl)))
          | refine W.ret ?_
          | refine W.block ?_
          | (apply W.branch; (case e => (simp only [go_sem, Nat.reduceEqDiff, Nat.reduceAdd, reduceIte, hc, hp, hl1, hl2, hs1, h1]; first | done | with_reducible rfl)))
          | with_reducible exact tf
          | with_reducible exact ft
          | intro _)
      exact leave0 (by (simp only [go_sem, Nat.reduceEqDiff, Nat.reduceAdd, reduceIte]; first | done | with_reducible rfl)) (res1 (by (simp only [go_sem, Nat.reduceEqDiff, Nat.reduceAdd, reduceIte]; first | done | with_reducible rfl)) (by intro c h; cases h)) (by (simp only [go_sem, Nat.reduceEqDiff, Nat.reduceAdd, reduceIte]; first | done | with_reducible rfl))
  · have hs1 : decide ((s.size : Int) > 100000) = true := by simp; omega
    rw [if_neg hs]
    refine ⟨_, GK_call hxq a41_eq (by simp [a41]) ?_, hk⟩
    unfold a41
    repeat' (first
        | refine W.seq ?_
        | refine W.wo ?_
        | refine WO.nil ?_
        | (apply WO.ok; (case e => (simp only [go_sem, Nat.reduceEqDiff, Nat.reduceAdd, reduceIte, hc, hp, hl1, hl2, hs1]; first | done | with_reducible rfl)))
        | (apply WO.guardF; (case hj => (simp only [go_sem, Nat.reduceEqDiff, Nat.reduceAdd, reduceIte, hc, hp, hl1, hl2, hs1]; first | done | with_reducible rfl)))
        | refine W.ret ?_
        | refine W.block ?_
        | (apply W.branch; (case e => (simp only [go_sem, Nat.reduceEqDiff, Nat.reduceAdd, reduceIte, hc, hp, hl1, hl2, hs1]; first | done | with_reducible rfl)))
        | with_reducible exact tf
        | with_reducible exact ft
        | intro _)
    exact leave0 (by (simp only [go_sem, Nat.reduceEqDiff, Nat.reduceAdd, reduceIte]; first | done | with_reducible rfl)) (res1 (by (simp only [go_sem, Nat.reduceEqDiff, Nat.reduceAdd, reduceIte]; first | done | with_reducible rfl)) (by intro c h; cases h)) (by (simp only [go_sem, Nat.reduceEqDiff, Nat.reduceAdd, reduceIte]; first | done | with_reducible rfl))
end Go.Proofs.YtehbekgmemebjaaDoorEv
