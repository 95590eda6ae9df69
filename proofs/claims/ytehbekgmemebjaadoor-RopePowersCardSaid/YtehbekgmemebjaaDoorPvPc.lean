import Derived.Test.YtehbekgmemebjaaDoorPvPb
namespace Go.Proofs.YtehbekgmemebjaaDoorEv
open Go Go.RowKit Go.Proofs.YtehbekgmemebjaaDoor.PAll.H Go.Proofs.YtehbekgmemebjaaDoorW.PrintWords
set_option linter.unusedVariables false
set_option linter.unusedSimpArgs false
theorem short_of {a : List Nd} (h : DenOK (.sl N55) a) : Short a := fun x hx => by
  have h1 : x.1.size ≤ maxLen := (h.2 x hx).1
  unfold maxLen at h1
  omega
theorem int_of {n : Int} (h : DenOK (.int .i64) n) : -9223372036854775808 ≤ n ∧ n ≤ 9223372036854775807 := by
  have h1 : (decide (IntKind.i64.min ≤ n) && decide (n ≤ IntKind.i64.max)) = true := h
  simp only [Bool.and_eq_true, decide_eq_true_eq] at h1
  have e1 : IntKind.i64.min = -9223372036854775808 := by decide
  have e2 : IntKind.i64.max = 9223372036854775807 := by decide
  omega
theorem i64wrap (x : Int) : IntKind.i64.wrap x = wrap64 x := by simp [IntKind.wrap, IntKind.bits, IntKind.signed, wrap64]; split <;> omega
theorem mS_len (l : List Nd) : (mS l).length = l.length := List.length_map ..
theorem mS_at {l : List Nd} {n : Int} (h0 : 0 ≤ n) (h1 : n < (mS l).length) : ∃ x : Nd, atL l n = some x ∧ rd_T55 (mS l) n = toS x ∧ l[n.toNat]? = some x := by
  rw [mS_len] at h1
  have hx : l[n.toNat]? = some (l[n.toNat]'(by omega)) := List.getElem?_eq_getElem (by omega)
  refine ⟨_, ?_, ?_, hx⟩
  · unfold atL
    rw [if_pos h0, hx]
  · unfold rd_T55
    rw [List.getD_eq_getElem?_getD, List.getElem?_map, hx]
    rfl
theorem tl_ne {s : ByteArray} : (!(s.toList == (⟨#[]⟩ : ByteArray).toList)) = true ↔ s.toList ≠ [] := by
  rw [toL_eq, Bool.not_eq_true', decide_eq_false_iff_not, ← toList_size]
theorem F37_ev {l : List Nd} {o : List Int} {n i c : Int} (h : LetR (mS l) o n i c) : Evn (fun k => F37 k (l, o, n, i, ())) (c, ()) := by
  induction h with
  | leaf n i h0 h1 hw i0 i1 =>
    obtain ⟨x, e1, e2, _⟩ := mS_at h0 h1
    rw [e2] at hw i1 ⊢
    refine Evn.succ (g := fun _ => some (bt (toS x).f0 i, ())) (fun k => ?_) (Evn.now _)
    simp only [F37, S37, e1, Option.bind_some]
    rw [if_pos ((tl_ne (s := x.1)).2 hw), atB_bt i0 (show i < x.1.size from i1)]
    rfl
  | times n i c h0 h1 hw ht f0 f1 hz h ih =>
    obtain ⟨x, e1, e2, _⟩ := mS_at h0 h1
    rw [e2] at hw ht f0 f1 hz ih
    refine Evn.succ (g := fun k => (F37 k (l, o, (toS x).f1, Int.tmod i (rd o (toS x).f1), ())).bind fun t => some (t.1, ())) (fun k => ?_) (Evn.bind ih (Evn.now _))
    simp only [F37, S37, e1, Option.bind_some]
    rw [if_neg (fun h => (tl_ne (s := x.1)).1 h hw), if_pos (decide_eq_true (show x.2.2.2.1 > 0 from ht))]
    have a1 : atL o x.2.1 = some (rd o x.2.1) := atL_rd f0 f1
    have hz' : ¬ rd o x.2.1 = 0 := hz
    simp only [a1, Option.bind_some, if_neg hz']
    rfl
  | left n i c h0 h1 hw ht f0 f1 hi h ih =>
    obtain ⟨x, e1, e2, _⟩ := mS_at h0 h1
    rw [e2] at hw ht f0 f1 hi ih
    refine Evn.succ (g := fun k => (F37 k (l, o, (toS x).f1, i, ())).bind fun t => some (t.1, ())) (fun k => ?_) (Evn.bind ih (Evn.now _))
    simp only [F37, S37, e1, Option.bind_some]
    rw [if_neg (fun h => (tl_ne (s := x.1)).1 h hw), if_neg (fun h => ht (of_decide_eq_true (p := x.2.2.2.1 > 0) h))]
    have a1 : atL o x.2.1 = some (rd o x.2.1) := atL_rd f0 f1
    have hi' : i < rd o x.2.1 := hi
    simp only [a1, Option.bind_some, decide_eq_true hi', if_true]
    rfl
  | right n i c h0 h1 hw ht f0 f1 hi h ih =>
    obtain ⟨x, e1, e2, _⟩ := mS_at h0 h1
    rw [e2] at hw ht f0 f1 hi ih
    refine Evn.succ (g := fun k => (F37 k (l, o, (toS x).f2, wrap64 (i - rd o (toS x).f1), ())).bind fun t => some (t.1, ())) (fun k => ?_) (Evn.bind ih (Evn.now _))
    simp only [F37, S37, e1, Option.bind_some]
    rw [if_neg (fun h => (tl_ne (s := x.1)).1 h hw), if_neg (fun h => ht (of_decide_eq_true (p := x.2.2.2.1 > 0) h))]
    have a1 : atL o x.2.1 = some (rd o x.2.1) := atL_rd f0 f1
    have hi' : ¬ i < rd o x.2.1 := hi
    simp only [a1, Option.bind_some, decide_eq_false hi', Bool.false_eq_true, if_false, i64wrap]
    rfl
theorem whole_at {o : List Int} (h : 0 < o.length) (hle : o.length ≤ 4000) : atL o (IntKind.i64.wrap ((o.length : Int) - 1)) = some (wholeL o) := by
  rw [i64w (by omega) (by omega), atL_rd (by omega) (by omega)]
  unfold wholeL
  rw [if_neg (by omega)]
  rfl
theorem F35_some {l : List Nd} {o : List Int} (hs : Short l) (h : lens (mS l) = some o) : Evn (fun k => F35 k (l, ())) (o, true, ()) := by
  have := F35_ev l hs
  rw [h] at this
  exact this
theorem F35_none {l : List Nd} (hs : Short l) (h : lens (mS l) = none) : Evn (fun k => F35 k (l, ())) ([], false, ()) := by
  have := F35_ev l hs
  rw [h] at this
  exact this
theorem F12_some {l : List Nd} {o : List Int} (hs : Short l) (h : lens (mS l) = some o) : Evn (fun k => F12 k (l, ())) (wholeL o, 0, ()) := by
  unfold F12
  simp only []
  refine Evn.bind (F35_some hs h) (Evn.eq fun k => ?_)
  have hr := rope_of h
  have h1 := hr.len
  have h2 := hr.le
  simp only [Bool.not_true, Bool.false_eq_true, if_false]
  by_cases h0 : o.length = 0
  · rw [if_pos (by simp [h0])]
    unfold wholeL
    rw [if_pos h0]
  · rw [if_neg (by simpa using h0), if_pos (by rw [i64w (by omega) (by omega)]; omega), whole_at (by omega) (by omega)]
    rfl
theorem F12_none {l : List Nd} (hs : Short l) (h : lens (mS l) = none) : Evn (fun k => F12 k (l, ())) (0, 20, ()) := by
  unfold F12
  simp only []
  exact Evn.bind (F35_none hs h) (Evn.eq fun k => rfl)
theorem F32_ev (k : Nat) {o : List Int} (h : o.length ≤ 4000) : F32 k (o, ()) = some (wholeL o, ()) := by
  unfold F32
  simp only []
  by_cases h0 : o.length = 0
  · rw [if_pos (by simp [h0])]
    unfold wholeL
    rw [if_pos h0]
  · rw [if_neg (by simpa using h0), whole_at (by omega) h]
    rfl
theorem F14_in {l : List Nd} {o : List Int} {i c : Int} (hs : Short l) (hl : lens (mS l) = some o) (h0 : 0 ≤ i) (h1 : i < wholeL o) (hc : LetR (mS l) o (((mS l).length : Int) - 1) i c) : Evn (fun k => F14 k (l, i, ())) (c, 0, ()) := by
  have hle := (rope_of hl).le
  rw [mS_len] at hc hle
  unfold F14
  simp only []
  refine Evn.bind (F12_some hs hl) ?_
  simp only [bne_self_eq_false, Bool.false_eq_true, if_false, decide_eq_false (show ¬ i < 0 by omega), decide_eq_false (show ¬ i ≥ wholeL o by omega), Option.bind_some, sumE]
  refine Evn.bind (F35_some hs hl) ?_
  simp only [i64w (show -9223372036854775808 ≤ (l.length : Int) - 1 by omega) (show (l.length : Int) - 1 ≤ 9223372036854775807 by omega)]
  exact Evn.bind (F37_ev hc) (Evn.now _)
theorem F33_ev (k : Nat) {l : List Nd} (h : l.length ≤ 4000) : F33 k (l, ()) = some (l, ()) := by
  unfold F33
  simp only [List.replicate_zero, List.length_nil, Nat.zero_add, List.nil_append, bigF (show l.length ≤ 100000000 by omega) (show 40 ≤ 1000 by omega), Bool.false_eq_true, if_false]
def otherI (c : Int) : Int := IntKind.u8.wrap (((BitVec.ofInt IntKind.u8.bits c ^^^ BitVec.ofInt IntKind.u8.bits (32 : Int)).toNat : Int))
theorem F15_ev (k : Nat) (c : Int) : F15 k (c, ()) = some (otherI c, ()) := rfl
theorem F83_ev (k : Nat) (c : Int) : F83 k (c, ()) = some (otherI c, ()) := rfl
theorem isLB_cases {c : Int} (h : isLB c = true) : c = 97 ∨ c = 98 ∨ c = 99 ∨ c = 100 ∨ c = 101 ∨ c = 102 ∨ c = 103 ∨ c = 104 ∨ c = 65 ∨ c = 66 ∨ c = 67 ∨ c = 68 ∨ c = 69 ∨ c = 70 ∨ c = 71 ∨ c = 72 := by
  unfold isLB index at h
  have := of_decide_eq_true h
  split at this
  · omega
  · split at this <;> omega
theorem otherI_letter {c : Int} (h : isLB c = true) : isLB (otherI c) = true := by
  rcases isLB_cases h with rfl | rfl | rfl | rfl | rfl | rfl | rfl | rfl | rfl | rfl | rfl | rfl | rfl | rfl | rfl | rfl <;> decide
theorem otherI_range (c : Int) : 0 ≤ otherI c ∧ otherI c ≤ 255 := by
  unfold otherI
  simp only [IntKind.wrap, IntKind.bits, IntKind.signed]
  constructor
  · simp; omega
  · simp; omega
def invS (s : ByteArray) : ByteArray := strOfNums ((List.range s.size).map fun j : Nat => otherI (bt s ((s.size : Int) - 1 - (j : Int))))
theorem invS_size (s : ByteArray) : (invS s).size = s.size := by
  unfold invS
  rw [strOfNums_size, List.length_map, List.length_range]
theorem invS_bt {s : ByteArray} {i : Int} (h0 : 0 ≤ i) (h1 : i < s.size) : bt (invS s) i = otherI (bt s ((s.size : Int) - 1 - i)) := by
  have hr := otherI_range (bt s ((s.size : Int) - 1 - i))
  unfold bt
  rw [dif_pos (by rw [invS_size]; omega)]
  have : (invS s)[i.toNat]'(by rw [invS_size]; omega) = UInt8.ofNat (otherI (bt s ((s.size : Int) - 1 - i))).toNat := by
    show (invS s).data[i.toNat]'_ = _
    have hd := strOfNums_data ((List.range s.size).map fun j : Nat => otherI (bt s ((s.size : Int) - 1 - (j : Int))))
    have h2 : (invS s).data.toList[i.toNat]? = some (UInt8.ofNat (otherI (bt s ((s.size : Int) - 1 - i))).toNat) := by
      show (strOfNums _).data.toList[i.toNat]? = _
      rw [hd, List.map_map, List.getElem?_map, List.getElem?_range (by omega)]
      simp only [Option.map_some, Function.comp_apply]
      rw [Int.toNat_of_nonneg h0]
    have h3 : (invS s).data[i.toNat]? = some (UInt8.ofNat (otherI (bt s ((s.size : Int) - 1 - i))).toNat) := by
      simpa using h2
    exact (Array.getElem?_eq_some_iff.1 h3).2
  rw [this]
  show (((otherI (bt s ((s.size : Int) - 1 - i))).toNat % 256 : Nat) : Int) = _
  unfold bt at hr ⊢
  omega
theorem allLB_iff (s : ByteArray) : allLB s = true ↔ ∀ i : Int, 0 ≤ i → i < s.size → isLB (bt s i) = true := by
  constructor
  · intro h i h0 h1
    cases hb : isLB (bt s i) with
    | true => rfl
    | false =>
      have := allLB_no (s := s) (pos := i.toNat) (by omega) (by rw [Int.toNat_of_nonneg h0]; exact hb)
      rw [h] at this
      cases this
  · intro h
    exact allLB_yes fun j hj => h j (by omega) (by omega)
theorem invS_all {s : ByteArray} (h : allLB s = true) : allLB (invS s) = true := by
  rw [allLB_iff] at h ⊢
  intro i h0 h1
  rw [invS_size] at h1
  rw [invS_bt h0 h1]
  exact otherI_letter (h _ (by omega) (by omega))
theorem checkS_ok {s : ByteArray} : checkS s = 0 ↔ s.size ≤ 100000 ∧ allLB s = true := by
  unfold checkS
  by_cases h1 : s.size ≤ 100000
  · cases h2 : allLB s <;> simp [h1]
  · simp [h1]
theorem invS_check {s : ByteArray} (h : checkS s = 0) : checkS (invS s) = 0 := by
  rw [checkS_ok] at h ⊢
  exact ⟨by rw [invS_size]; exact h.1, invS_all h.2⟩
theorem F68_ev {s : ByteArray} (hs : s.size ≤ 100000) : Evn (fun k => F68 k (s, ())) (invS s, ()) := by
  unfold F68
  simp only []
  refine Evn.congr (fun k => if_pos ⟨by omega, by omega, by omega, by omega⟩) ?_
  refine Evn.bind (a := Sum.inl ((List.range s.size).map fun j : Nat => otherI (bt s ((s.size : Int) - 1 - (j : Int))), ())) (EvI.ev ?_) (Evn.now _)
  refine EvI.inv (fun a b => ∃ (i : Nat) (out : List Int), a = ((i : Int), (s.size : Int), s, out, ()) ∧ i ≤ s.size ∧ out.length = s.size ∧ (∀ j : Nat, j < s.size → s.size - i ≤ j → out[j]? = some (otherI (bt s ((s.size : Int) - 1 - (j : Int))))) ∧ b = Sum.inl ((List.range s.size).map fun j : Nat => otherI (bt s ((s.size : Int) - 1 - (j : Int))), ())) (fun a => s.size - a.1.toNat) ?_ _ _ ⟨0, _, rfl, Nat.zero_le _, by simp, fun j h1 h2 => by omega, rfl⟩
  rintro a b ⟨i, out, rfl, hi, hlen, hout, rfl⟩
  by_cases hlt : i < s.size
  · have e1 : IntKind.i64.wrap ((s.size : Int) - 1) = (s.size : Int) - 1 := i64w (by omega) (by omega)
    have e2 : IntKind.i64.wrap ((s.size : Int) - 1 - (i : Int)) = ((s.size - 1 - i : Nat) : Int) := by rw [i64w (by omega) (by omega)]; omega
    have e3 : IntKind.i64.wrap ((i : Int) + 1) = ((i + 1 : Nat) : Int) := by rw [i64w (by omega) (by omega)]; omega
    refine ⟨.inl (((i + 1 : Nat) : Int), (s.size : Int), s, out.set (s.size - 1 - i) (otherI (bt s (i : Int))), ()), Evn.eq fun k => ?_, ?_, i + 1, _, rfl, by omega, by simp [hlen], fun j h1 h2 => ?_, rfl⟩
    · have c1 : (i : Int) < (s.size : Int) := by omega
      have c2 : (0 : Int) ≤ ((s.size - 1 - i : Nat) : Int) ∧ ((s.size - 1 - i : Nat) : Int) < (out.length : Int) := by omega
      simp only [decide_eq_true c1, if_true, atB_bt (show (0 : Int) ≤ (i : Int) by omega) c1, Option.bind_some, F83_ev, e1, e2, e3, if_pos c2]
      rw [atL_rd c2.1 c2.2]
      rfl
    · simp only []
      omega
    · rw [List.getElem?_set]
      by_cases hj : s.size - 1 - i = j
      · rw [if_pos hj, if_pos (by omega), show (s.size : Int) - 1 - (j : Int) = (i : Int) by omega]
      · rw [if_neg hj]
        exact hout j h1 (by omega)
  · refine ⟨.inr (.inl (out, ())), Evn.eq fun k => ?_, ?_⟩
    · rw [if_neg (by simpa using hlt)]
    · show _ = _
      congr 2
      apply List.ext_getElem?
      intro j
      by_cases hj : j < s.size
      · rw [hout j hj (by omega), List.getElem?_map, List.getElem?_range hj]
        rfl
      · rw [List.getElem?_eq_none (by omega), List.getElem?_eq_none (by simp; omega)]
theorem F51_ev {s : ByteArray} (h : checkS s = 0) : Evn (fun k => F51 k (s, ())) (invS s, ()) := by
  have h1 := (checkS_ok.1 h).1
  unfold F51 F67
  simp only []
  refine Evn.bind (a := (true, ())) (Evn.eq fun k => ?_) ?_
  · unfold F41
    simp only [if_true, Option.bind_some, h]
    rfl
  · simp only [Bool.not_true, Bool.false_eq_true, if_false]
    exact Evn.bind (F68_ev h1) (Evn.now _)
end Go.Proofs.YtehbekgmemebjaaDoorEv
