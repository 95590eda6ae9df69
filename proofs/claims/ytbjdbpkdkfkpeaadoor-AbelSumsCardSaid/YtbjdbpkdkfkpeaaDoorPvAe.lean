import Derived.Test.YtbjdbpkdkfkpeaaDoorPvAd
import Derived.Test.YtbjdbpkdkfkpeaaDoorStPure
namespace Go.Proofs.YtbjdbpkdkfkpeaaDoorEv
open Go
set_option linter.unusedVariables false
set_option linter.unusedSimpArgs false
noncomputable section
def gen (c : Int) : Int := (index c).tdiv 2
def sgn (c : Int) : Int := 1 - 2 * (index c).tmod 2
def cnt (g : Int) : List Int → Int
  | [] => 0
  | c :: r => (if gen c = g then sgn c else 0) + cnt g r
theorem cnt_app (g : Int) : ∀ (a b : List Int), cnt g (a ++ b) = cnt g a + cnt g b
  | [], b => by simp [cnt]
  | c :: a, b => by rw [List.cons_append, cnt, cnt, cnt_app g a b]; omega
theorem sgn_pm {c : Int} (h : 0 ≤ index c) : sgn c = 1 ∨ sgn c = -1 := by
  unfold sgn
  have : (index c).tmod 2 = 0 ∨ (index c).tmod 2 = 1 := by
    rw [Int.tmod_eq_emod_of_nonneg h]; omega
  omega
theorem cnt_bound (g : Int) : ∀ (a : List Int), (∀ c ∈ a, 0 ≤ index c) → -(a.length : Int) ≤ cnt g a ∧ cnt g a ≤ a.length
  | [], _ => by simp [cnt]
  | c :: a, h => by
    have h1 := cnt_bound g a (fun c hc => h c (List.mem_cons_of_mem _ hc))
    have h2 := sgn_pm (h c (by simp))
    rw [cnt, List.length_cons]
    split <;> omega
def sumsE (k : Nat) (bs : List Int) : List Int := (List.range k).map fun (g : Nat) => cnt (g : Int) bs
theorem sumsE_len (k : Nat) (bs : List Int) : (sumsE k bs).length = k := by simp [sumsE]
theorem sumsE_at {k j : Nat} (bs : List Int) (h : j < k) : (sumsE k bs)[j]? = some (cnt (j : Int) bs) := by simp [sumsE, h]
theorem sumsE_nil (k : Nat) : sumsE k [] = List.replicate k 0 := by
  apply List.ext_getElem (by simp [sumsE])
  intro i h1 h2
  simp [sumsE, cnt]
theorem sumsE_take {k : Nat} (hk : k ≤ 8) (bs : List Int) : (sumsE 8 bs).take k = sumsE k bs := by
  unfold sumsE
  rw [← List.map_take, List.take_range, Nat.min_eq_left hk]
theorem sumsE_step {k g : Nat} (hg : g < k) (bs : List Int) (c : Int) (hc : gen c = g) : (sumsE k bs).set g (cnt (g : Int) bs + sgn c) = sumsE k (bs ++ [c]) := by
  apply List.ext_getElem?
  intro i
  by_cases hi : i < k
  · rw [sumsE_at _ hi, List.getElem?_set, sumsE_at _ hi]
    by_cases hgi : g = i
    · subst hgi
      rw [if_pos rfl, if_pos (by rw [sumsE_len]; exact hg), cnt_app]
      simp [cnt, hc]
    · rw [if_neg hgi, cnt_app]
      have : ¬ gen c = (i : Int) := by rw [hc]; omega
      simp [cnt, this]
  · rw [List.getElem?_eq_none (by rw [List.length_set, sumsE_len]; omega), List.getElem?_eq_none (by rw [sumsE_len]; omega)]
theorem byte_facts : ∀ c : Int, 0 ≤ c → c < 256 → ∀ o : Int, o = IntKind.i64.wrap (IntKind.i64.wrap (IntKind.u8.wrap (((BitVec.ofInt IntKind.u8.bits c ||| BitVec.ofInt IntKind.u8.bits 32).toNat : Nat) : Int)) - 97) →
    -97 ≤ o ∧ o < 200 ∧ ((0 ≤ o ∧ o < 8 ∧ (c = IntKind.u8.wrap (IntKind.i64.wrap (97 + IntKind.i64.wrap o)) ∨ c = IntKind.u8.wrap (IntKind.i64.wrap (65 + IntKind.i64.wrap o)))) ↔ 0 ≤ index c) ∧ (0 ≤ index c → o = gen c ∧ (sgn c = if 97 ≤ c then 1 else -1)) := by
  have key : ((List.range 256).all fun n => let c : Int := n
      let o := IntKind.i64.wrap (IntKind.i64.wrap (IntKind.u8.wrap (((BitVec.ofInt IntKind.u8.bits c ||| BitVec.ofInt IntKind.u8.bits 32).toNat : Nat) : Int)) - 97)
      decide (-97 ≤ o) && decide (o < 200) && (decide (0 ≤ o ∧ o < 8 ∧ (c = IntKind.u8.wrap (IntKind.i64.wrap (97 + IntKind.i64.wrap o)) ∨ c = IntKind.u8.wrap (IntKind.i64.wrap (65 + IntKind.i64.wrap o)))) == decide (0 ≤ index c)) && (!decide (0 ≤ index c) || (decide (o = gen c) && decide (sgn c = if 97 ≤ c then 1 else -1)))) = true := by kernel_rfl
  intro c h0 h1 o ho
  have h := List.all_eq_true.1 key c.toNat (List.mem_range.2 (by omega))
  have hc : ((c.toNat : Nat) : Int) = c := by omega
  simp only [hc, ← ho, Bool.and_eq_true, decide_eq_true_eq, Bool.or_eq_true, Bool.not_eq_true', decide_eq_false_iff_not, beq_iff_eq, decide_eq_decide] at h
  obtain ⟨⟨⟨a1, a2⟩, a3⟩, a4⟩ := h
  exact ⟨a1, a2, a3, fun hi => a4.resolve_left (fun h => h hi)⟩
theorem isLK_gen {k c : Int} : isLK k c = true ↔ 0 ≤ index c ∧ gen c < k := by
  unfold isLK gen
  rw [Bool.and_eq_true, decide_eq_true_eq, decide_eq_true_eq]
  constructor
  · rintro ⟨h1, h2⟩
    rw [Int.tdiv_eq_ediv_of_nonneg h1]; omega
  · rintro ⟨h1, h2⟩
    rw [Int.tdiv_eq_ediv_of_nonneg h1] at h2; omega
theorem gen_range {c : Int} (h : 0 ≤ index c) : 0 ≤ gen c ∧ gen c < 8 := by
  unfold gen
  have := index_range c
  rw [Int.tdiv_eq_ediv_of_nonneg h]; omega
theorem F51_ev {s : ByteArray} (hs : s.size ≤ 100000) (hl : ∀ c ∈ bytesB s, 0 ≤ index c) : Evn (fun k => F51 k (s, ())) (sumsE 8 (bytesB s), ()) := by
  unfold F51
  refine Evn.bind (a := Sum.inl (sumsE 8 (bytesB s), [0, 0, 0, 0, 0, 0, 0, 0], ())) (EvI.ev ?_) (Evn.eq fun k => rfl)
  have h0 : ([0, 0, 0, 0, 0, 0, 0, 0] : List Int) = sumsE 8 ((bytesB s).take 0) := by rw [List.take_zero, sumsE_nil]; rfl
  refine EvI.count (fun j => ((j : Int), (s.size : Int), s, sumsE 8 ((bytesB s).take j), [0, 0, 0, 0, 0, 0, 0, 0], ())) s.size (by rw [← h0]; rfl) ?_ ?_
  · intro j hj
    obtain ⟨c, hc⟩ : ∃ c, (bytesB s)[j]? = some c := ⟨_, List.getElem?_eq_getElem (by rw [bytesB_len]; exact hj)⟩
    have hi := hl c (List.mem_of_getElem? hc)
    have hr := index_range c
    have hg := gen_range hi
    obtain ⟨g, hgg⟩ : ∃ g : Nat, gen c = g := ⟨(gen c).toNat, by omega⟩
    refine Evn.eq fun k => ?_
    have hlt : decide ((j : Int) < (s.size : Int)) = true := by simp; exact hj
    have hw1 : IntKind.i64.wrap ((index c).tdiv 2) = (g : Int) := by
      have : (index c).tdiv 2 = (g : Int) := hgg
      rw [this]; exact i64w (by omega) (by omega)
    have h2 : ((2 : Int) = 0) = False := by simp
    have hb : ((0 : Int) ≤ (g : Int) ∧ (g : Int) < ((8 : Nat) : Int)) = True := by
      simp; omega
    have hat : (sumsE 8 ((bytesB s).take j))[g]? = some (cnt (g : Int) ((bytesB s).take j)) := sumsE_at _ (by omega)
    have hbd := cnt_bound (g : Int) ((bytesB s).take j) (fun c hc => hl c (List.mem_of_mem_take hc))
    have hlen : ((bytesB s).take j).length ≤ 100000 := by rw [List.length_take, bytesB_len]; omega
    have hsg := sgn_pm hi
    have hw2 : IntKind.i64.wrap (2 * (index c).tmod 2) = 2 * (index c).tmod 2 := by
      have : (index c).tmod 2 = 0 ∨ (index c).tmod 2 = 1 := by rw [Int.tmod_eq_emod_of_nonneg hi]; omega
      exact i64w (by omega) (by omega)
    have hw3 : IntKind.i64.wrap (1 - 2 * (index c).tmod 2) = sgn c := i64w (by show _ ≤ sgn c; omega) (by show sgn c ≤ _; omega)
    have hw4 : IntKind.i64.wrap (cnt (g : Int) ((bytesB s).take j) + sgn c) = cnt (g : Int) ((bytesB s).take j) + sgn c := i64w (by omega) (by omega)
    have hw5 : IntKind.i64.wrap ((j : Int) + 1) = ((j + 1 : Nat) : Int) := by rw [i64w (by omega) (by omega)]; omega
    have htk : (bytesB s).take (j + 1) = (bytesB s).take j ++ [c] := by
      rw [List.take_add_one, hc]; rfl
    simp only [hlt, if_true, atB_at hc, Option.bind_some, F77, h2, if_false, hw1, hb, atL_at hat, hw2, hw3, hw4, hw5, Int.toNat_natCast, htk]
    rw [sumsE_step (by omega) _ _ hgg]
  · refine Evn.eq fun k => ?_
    have hlt : decide ((s.size : Int) < (s.size : Int)) = false := by simp
    have htk : (bytesB s).take s.size = bytesB s := by rw [← bytesB_len, List.take_length]
    simp only [hlt, Bool.false_eq_true, if_false, htk]
theorem F28_ev {k : Nat} {s : ByteArray} (hk : 1 ≤ k ∧ k ≤ 8) (hs : s.size ≤ 100000) (hl : ∀ c ∈ bytesB s, 0 ≤ index c ∧ gen c < k) : Evn (fun f => F28 f ((k : Int), s, ())) (sumsE k (bytesB s), ()) := by
  unfold F28
  have hc0 : ((0 : Int) ≤ (k : Int) ∧ (k : Int) ≤ (k : Int) ∧ (k : Int) * ((8 : Nat) : Int) ≤ 140737488355328 ∧ (k : Int) ≤ 140737488355328) = True := by
    simp; omega
  simp only [hc0, if_true]
  refine Evn.bind (a := Sum.inl (sumsE k (bytesB s), ())) (EvI.ev ?_) (Evn.eq fun f => rfl)
  refine EvI.count (fun j => ((j : Int), s, sumsE k ((bytesB s).take j), ())) s.size (by rw [List.take_zero, sumsE_nil, Int.toNat_natCast]; rfl) ?_ ?_
  · intro j hj
    obtain ⟨c, hc⟩ : ∃ c, (bytesB s)[j]? = some c := ⟨_, List.getElem?_eq_getElem (by rw [bytesB_len]; exact hj)⟩
    obtain ⟨hi, hgk⟩ := hl c (List.mem_of_getElem? hc)
    have hr := bytesB_range (List.mem_of_getElem? hc)
    have hg := gen_range hi
    obtain ⟨g, hgg⟩ : ∃ g : Nat, gen c = g := ⟨(gen c).toNat, by omega⟩
    obtain ⟨_, _, _, hf⟩ := byte_facts c hr.1 hr.2 _ rfl
    obtain ⟨ho, hsg⟩ := hf hi
    rw [hgg] at ho
    refine Evn.eq fun f => ?_
    have hlt : decide ((j : Int) < (s.size : Int)) = true := by simp; exact hj
    have hb : ((0 : Int) ≤ (g : Int) ∧ (g : Int) < ((sumsE k ((bytesB s).take j)).length : Int)) = True := by
      rw [sumsE_len]; simp; omega
    have hat : (sumsE k ((bytesB s).take j))[g]? = some (cnt (g : Int) ((bytesB s).take j)) := sumsE_at _ (by omega)
    have hbd := cnt_bound (g : Int) ((bytesB s).take j) (fun c hc => (hl c (List.mem_of_mem_take hc)).1)
    have hlen : ((bytesB s).take j).length ≤ 100000 := by rw [List.length_take, bytesB_len]; omega
    have hw5 : IntKind.i64.wrap ((j : Int) + 1) = ((j + 1 : Nat) : Int) := by rw [i64w (by omega) (by omega)]; omega
    have htk : (bytesB s).take (j + 1) = (bytesB s).take j ++ [c] := by
      rw [List.take_add_one, hc]; rfl
    by_cases h97 : 97 ≤ c
    · have hd : decide (c ≥ 97) = true := decide_eq_true h97
      rw [if_pos h97] at hsg
      have hw4 : IntKind.i64.wrap (cnt (g : Int) ((bytesB s).take j) + 1) = cnt (g : Int) ((bytesB s).take j) + sgn c := by rw [hsg]; exact i64w (by omega) (by omega)
      simp only [hlt, if_true, atB_at hc, Option.bind_some, hd, ho, hb, atL_at hat, hw4, hw5, Int.toNat_natCast, htk]
      rw [sumsE_step (by omega) _ _ hgg]
    · have hd : decide (c ≥ 97) = false := decide_eq_false h97
      rw [if_neg h97] at hsg
      have hw4 : IntKind.i64.wrap (cnt (g : Int) ((bytesB s).take j) - 1) = cnt (g : Int) ((bytesB s).take j) + sgn c := by rw [hsg]; exact i64w (by omega) (by omega)
      simp only [hlt, if_true, atB_at hc, Option.bind_some, hd, Bool.false_eq_true, if_false, ho, hb, atL_at hat, hw4, hw5, Int.toNat_natCast, htk]
      rw [sumsE_step (by omega) _ _ hgg]
  · refine Evn.eq fun f => ?_
    have hlt : decide ((s.size : Int) < (s.size : Int)) = false := by simp
    have htk : (bytesB s).take s.size = bytesB s := by rw [← bytesB_len, List.take_length]
    simp only [hlt, Bool.false_eq_true, if_false, htk]
theorem F24_ev {k : Nat} {s : ByteArray} (hk : 1 ≤ k ∧ k ≤ 8) (hm : s.size ≤ 4611686018427387904) : Evn (fun f => F24 f ((k : Int), s, ())) (allLK k s && decide ((s.size : Int) ≤ 100000), ()) := by
  unfold F24
  refine Evn.bind (a := if allLK k s = true then Sum.inr (Sum.inl (s, ())) else Sum.inl (false, ())) (EvI.ev ?_) ?_
  · refine EvI.inv (fun (e : Int × Int × ByteArray × Unit) b => ∃ j : Nat, j ≤ s.size ∧ e = ((j : Int), (k : Int), s, ()) ∧ (∀ c ∈ (bytesB s).take j, isLK k c = true) ∧ b = if allLK k s = true then Sum.inr (Sum.inl (s, ())) else Sum.inl (false, ())) (fun e => s.size - e.1.toNat) ?_ _ _ ⟨0, by omega, rfl, by simp, rfl⟩
    rintro e b ⟨j, hj, rfl, hall, rfl⟩
    by_cases hjs : j < s.size
    · obtain ⟨c, hc⟩ : ∃ c, (bytesB s)[j]? = some c := ⟨_, List.getElem?_eq_getElem (by rw [bytesB_len]; exact hjs)⟩
      have hr := bytesB_range (List.mem_of_getElem? hc)
      obtain ⟨ho1, ho2, hiff, hf⟩ := byte_facts c hr.1 hr.2 _ rfl
      have hlt : decide ((j : Int) < (s.size : Int)) = true := by simp; exact hjs
      generalize hoe : IntKind.i64.wrap (IntKind.i64.wrap (IntKind.u8.wrap (((BitVec.ofInt IntKind.u8.bits c ||| BitVec.ofInt IntKind.u8.bits 32).toNat : Nat) : Int)) - 97) = o at ho1 ho2 hiff hf
      have hw5 : IntKind.i64.wrap ((j : Int) + 1) = ((j + 1 : Nat) : Int) := by rw [i64w (by omega) (by omega)]; omega
      have how : IntKind.i64.wrap o = o := i64w (by omega) (by omega)
      rw [how] at hiff
      have hbad : isLK k c = false → allLK k s = false := fun h => by
        unfold allLK
        rw [List.all_eq_false]
        exact ⟨c, List.mem_of_getElem? hc, by rw [h]; decide⟩
      have good : isLK k c = true → Rnd (fun (e : Int × Int × ByteArray × Unit) b => ∃ j : Nat, j ≤ s.size ∧ e = ((j : Int), (k : Int), s, ()) ∧ (∀ c ∈ (bytesB s).take j, isLK k c = true) ∧ b = if allLK k s = true then Sum.inr (Sum.inl (s, ())) else Sum.inl (false, ())) (fun e => s.size - e.1.toNat) ((j : Int), (k : Int), s, ()) (if allLK k s = true then (Sum.inr (Sum.inl (s, ())) : Sum (Bool × Unit) (Sum (ByteArray × Unit) Empty)) else Sum.inl (false, ())) (.inl (((j + 1 : Nat) : Int), (k : Int), s, ())) := fun h => by
        refine ⟨by show s.size - ((j + 1 : Nat) : Int).toNat < s.size - (j : Int).toNat; omega, j + 1, by omega, rfl, ?_, rfl⟩
        intro c' hc'
        rw [List.take_add_one, hc] at hc'
        rcases List.mem_append.1 hc' with h' | h'
        · exact hall c' h'
        · simp at h'; rw [h']; exact h
      by_cases h0 : o < 0
      · have hb : isLK k c = false := by
          rw [Bool.eq_false_iff, ne_eq, isLK_gen]
          rintro ⟨h1, _⟩
          have := (hiff.2 h1).1; omega
        refine ⟨.inr (.inl (false, ())), Evn.eq fun f => ?_, ?_⟩
        · simp only [hlt, if_true, atB_at hc, Option.bind_some, hoe, decide_eq_true h0]
        · show _ = _
          rw [if_neg (by rw [hbad hb]; simp)]
      · by_cases h1 : o ≥ (k : Int)
        · have hb : isLK k c = false := by
            rw [Bool.eq_false_iff, ne_eq, isLK_gen]
            rintro ⟨h2, h3⟩
            have := (hf h2).1; omega
          refine ⟨.inr (.inl (false, ())), Evn.eq fun f => ?_, ?_⟩
          · simp only [hlt, if_true, atB_at hc, Option.bind_some, hoe, decide_eq_false h0, decide_eq_true h1, Bool.false_eq_true, if_false]
          · show _ = _
            rw [if_neg (by rw [hbad hb]; simp)]
        · by_cases h2 : c = IntKind.u8.wrap (IntKind.i64.wrap (97 + o))
          · have hi := hiff.1 ⟨by omega, by omega, .inl h2⟩
            have hb : isLK k c = true := isLK_gen.2 ⟨hi, by rw [← (hf hi).1]; omega⟩
            have hn : (c != IntKind.u8.wrap (IntKind.i64.wrap (97 + o))) = false := by rw [← h2]; simp
            refine ⟨.inl (((j + 1 : Nat) : Int), (k : Int), s, ()), Evn.eq fun f => ?_, good hb⟩
            simp only [hlt, if_true, atB_at hc, Option.bind_some, hoe, decide_eq_false h0, decide_eq_false h1, Bool.false_eq_true, if_false, how, hn, hw5]
          · have hn : (c != IntKind.u8.wrap (IntKind.i64.wrap (97 + o))) = true := by simpa using h2
            by_cases h3 : c = IntKind.u8.wrap (IntKind.i64.wrap (65 + o))
            · have hi := hiff.1 ⟨by omega, by omega, .inr h3⟩
              have hb : isLK k c = true := isLK_gen.2 ⟨hi, by rw [← (hf hi).1]; omega⟩
              have hn3 : (c != IntKind.u8.wrap (IntKind.i64.wrap (65 + o))) = false := by rw [← h3]; simp
              refine ⟨.inl (((j + 1 : Nat) : Int), (k : Int), s, ()), Evn.eq fun f => ?_, good hb⟩
              simp only [hlt, if_true, atB_at hc, Option.bind_some, hoe, decide_eq_false h0, decide_eq_false h1, Bool.false_eq_true, if_false, how, hn, hn3, hw5]
            · have hn3 : (c != IntKind.u8.wrap (IntKind.i64.wrap (65 + o))) = true := by simpa using h3
              have hb : isLK k c = false := by
                rw [Bool.eq_false_iff, ne_eq, isLK_gen]
                rintro ⟨hi, _⟩
                rcases (hiff.2 hi).2.2 with h | h
                · exact h2 h
                · exact h3 h
              refine ⟨.inr (.inl (false, ())), Evn.eq fun f => ?_, ?_⟩
              · simp only [hlt, if_true, atB_at hc, Option.bind_some, hoe, decide_eq_false h0, decide_eq_false h1, Bool.false_eq_true, if_false, how, hn, hn3]
              · show _ = _
                rw [if_neg (by rw [hbad hb]; simp)]
    · obtain rfl : j = s.size := by omega
      have hlt : decide ((s.size : Int) < (s.size : Int)) = false := by simp
      have hyes : allLK k s = true := by
        unfold allLK
        rw [List.all_eq_true]
        rw [← bytesB_len, List.take_length] at hall
        exact hall
      refine ⟨.inr (.inr (.inl (s, ()))), Evn.eq fun f => ?_, ?_⟩
      · simp only [hlt, Bool.false_eq_true, if_false]
      · show _ = _
        rw [if_pos hyes]
  · refine Evn.eq fun f => ?_
    cases h : allLK k s with
    | true => simp only [if_true, sumE, Bool.true_and]
    | false => simp only [Bool.false_eq_true, if_false, sumE, Bool.false_and]
end
end Go.Proofs.YtbjdbpkdkfkpeaaDoorEv
