import Derived.Test.YtehbekgmemebjaaDoorPvPc
import Derived.Test.YtehbekgmemebjaaDoorPvRc
import Derived.Test.YtehbekgmemebjaaDoorExtK
import Derived.Test.YtehbekgmemebjaaDoorRows
import Derived.OpenShut
namespace Go.Proofs.YtehbekgmemebjaaDoorEv
open Go Go.RowKit Go.Proofs.YtehbekgmemebjaaDoor.PAll.H Go.Proofs.YtehbekgmemebjaaDoorW.PrintWords
set_option linter.unusedVariables false
set_option linter.unusedSimpArgs false
theorem G31_some (k : Nat) {l : List Nd} {o : List Int} (h : lens (mS l) = some o) : F31 k (l, ()) = some (o, 0, ()) := by
  unfold F31
  have : lens (l.map toS) = some o := h
  simp only [this]
theorem G31_none (k : Nat) {l : List Nd} (h : lens (mS l) = none) : F31 k (l, ()) = some ([], 20, ()) := by
  unfold F31
  have : lens (l.map toS) = none := h
  simp only [this]
def cntS (g : Int) (n : Int) (c : Int) : Int := if c = 97 + g then IntKind.i64.wrap (n + 1) else if c = 65 + g then IntKind.i64.wrap (n - 1) else n
theorem rd_set {l : List Int} {i : Nat} {v : Int} {g : Int} (h0 : 0 ≤ g) (h1 : g < l.length) : rd (l.set i v) g = if (i : Int) = g then v else rd l g := by
  unfold rd
  rw [List.getD_eq_getElem?_getD, List.getD_eq_getElem?_getD, List.getElem?_set]
  by_cases h : i = g.toNat
  · rw [if_pos h, if_pos (by omega), if_pos (by omega)]
    rfl
  · rw [if_neg h, if_neg (by omega)]
theorem rd_addL {acc : List Int} {c g : Int} (hl : acc.length = 8) (hc : isLB c = true) (h0 : 0 ≤ g) (h1 : g < 8) : rd (addL acc c) g = cntS g (rd acc g) c := by
  unfold addL cntS
  have hi : index c = if 97 ≤ c ∧ c < 105 then 2 * (c - 97) else if 65 ≤ c ∧ c < 73 then 2 * (c - 65) + 1 else -1 := rfl
  have hp : 0 ≤ index c := of_decide_eq_true hc
  rw [rd_set h0 (by omega), Int.tdiv_eq_ediv_of_nonneg hp, Int.tmod_eq_emod_of_nonneg hp, Int.toNat_of_nonneg (by omega)]
  rw [hi] at hp ⊢
  by_cases c1 : 97 ≤ c ∧ c < 105
  · rw [if_pos c1]
    by_cases e : c = 97 + g
    · have e1 : 2 * (c - 97) / 2 = g := by omega
      have e2 : 2 * (c - 97) % 2 = 0 := by omega
      rw [if_pos e1, if_pos e, e1, e2]
      rfl
    · rw [if_neg (by omega), if_neg e, if_neg (by omega)]
  · rw [if_neg c1] at hp ⊢
    by_cases c2 : 65 ≤ c ∧ c < 73
    · rw [if_pos c2]
      by_cases e : c = 65 + g
      · have e1 : (2 * (c - 65) + 1) / 2 = g := by omega
        have e2 : (2 * (c - 65) + 1) % 2 = 1 := by omega
        rw [if_pos e1, if_neg (by omega), if_pos e, e1, e2]
        rfl
      · rw [if_neg (by omega), if_neg (by omega), if_neg e]
    · rw [if_neg c2] at hp
      omega
theorem fold_rd {g : Int} (h0 : 0 ≤ g) (h1 : g < 8) : ∀ (l : List Int) (acc : List Int), acc.length = 8 → (∀ c ∈ l, isLB c = true) → rd (l.foldl addL acc) g = l.foldl (cntS g) (rd acc g)
  | [], acc, _, _ => rfl
  | c :: r, acc, hl, hc => by
    rw [List.foldl_cons, List.foldl_cons, fold_rd h0 h1 r _ (by rw [addL_len]; exact hl) (fun x hx => hc x (List.mem_cons_of_mem _ hx)), rd_addL hl (hc c List.mem_cons_self) h0 h1]
theorem leaf_rd {s : ByteArray} {g : Int} (hs : allLB s = true) (h0 : 0 ≤ g) (h1 : g < 8) : rd (leafV s) g = (bytesOf s).foldl (cntS g) 0 := by
  unfold leafV
  rw [fold_rd h0 h1 _ _ (by simp) (fun c hc => by
    have : (bytesOf s).all isLB = true := hs
    rw [List.all_eq_true] at this
    exact this c hc)]
  congr 1
  unfold rd
  rw [List.getD_eq_getElem?_getD, List.getElem?_replicate, if_pos (by omega)]
  rfl
theorem u8w {x : Int} (h : 0 ≤ x) (h' : x ≤ 255) : IntKind.u8.wrap x = x := by simp [IntKind.wrap, IntKind.bits, IntKind.signed]; omega
theorem F47_ev {l : List Nd} {all : List (List Int)} {n : Int} {x : Nd} (hx : atL l n = some x) (hw : x.1.size ≠ 0 → checkS x.1 = 0) (h3 : 0 ≤ x.2.2.2.1)
    (hf1 : x.1.size = 0 → ∃ v, atL all x.2.1 = some v ∧ v.length = 8 ∧ v = all.getD x.2.1.toNat []) (hf2 : x.1.size = 0 → x.2.2.2.1 = 0 → ∃ v, atL all x.2.2.1 = some v ∧ v.length = 8 ∧ v = all.getD x.2.2.1.toNat []) : Evn (fun k => F47 k (l, all, n, ())) (vecOf all (toS x), ()) := by
  unfold F47
  simp only []
  refine Evn.congr (fun k => if_pos (by omega)) ?_
  refine Evn.bind (Evn.eq fun k => hx) ?_
  obtain ⟨V, hV⟩ : ∃ V, vecOf all (toS x) = V := ⟨_, rfl⟩
  have hVl : V.length = 8 := by rw [← hV]; exact vecOf_len _ _
  rw [hV]
  refine Evn.bind (a := Sum.inl (V, ())) (EvI.ev ?_) (Evn.now _)
  refine EvI.inv (fun a b => ∃ (g : Nat) (out : List Int), a = ((g : Int), all, x.2.2.2.1, x.2.2.1, x.2.1, x.1, out, ()) ∧ g ≤ 8 ∧ out.length = 8 ∧ (∀ j : Nat, j < g → out[j]? = V[j]?) ∧ b = Sum.inl (V, ())) (fun a => 8 - a.1.toNat) ?_ _ _ ⟨0, _, rfl, by omega, by simp, fun j hj => by omega, rfl⟩
  rintro a b ⟨g, out, rfl, hg, hol, hout, rfl⟩
  by_cases hg8 : g = 8
  · subst hg8
    refine ⟨.inr (.inl (out, ())), Evn.eq fun k => rfl, ?_⟩
    show _ = _
    congr 2
    apply List.ext_getElem?
    intro j
    by_cases hj : j < 8
    · exact hout j hj
    · rw [List.getElem?_eq_none (by omega), List.getElem?_eq_none (by omega)]
  · have hlt : (g : Int) < 8 := by omega
    have hw1 : IntKind.i64.wrap ((g : Int) + 1) = ((g + 1 : Nat) : Int) := by rw [i64w (by omega) (by omega)]; omega
    refine ⟨.inl (((g + 1 : Nat) : Int), all, x.2.2.2.1, x.2.2.1, x.2.1, x.1, out.set g (rd V (g : Int)), ()), ?_, ?_, g + 1, _, rfl, by omega, by simp [hol], fun j hj => ?_, rfl⟩
    · simp only [decide_eq_true hlt, if_true]
      refine Evn.bind (a := Sum.inl (rd V (g : Int), (g : Int), all, x.2.2.2.1, x.2.2.1, x.2.1, x.1, out, ())) ?_ (Evn.eq fun k => ?_)
      · by_cases h0 : x.1.size = 0
        · simp only [toL_eq, decide_eq_true h0, Bool.not_true, Bool.false_eq_true, if_false]
          obtain ⟨v1, e1, e2, e3⟩ := hf1 h0
          by_cases t : x.2.2.2.1 > 0
          · refine Evn.eq fun k => ?_
            have hr : rd V (g : Int) = IntKind.i64.wrap (x.2.2.2.1 * rd v1 (g : Int)) := by
              rw [← hV]
              unfold vecOf toS
              simp only [ne_eq]
              rw [if_neg (by omega), if_pos (by omega), ← e3, Int.mul_comm]
              simp [rd, show g < 8 by omega]
            simp only [decide_eq_true t, if_true, e1, Option.bind_some, atL_rd (show 0 ≤ (g : Int) by omega) (show (g : Int) < v1.length by omega), hr]
          · obtain ⟨v2, q1, q2, q3⟩ := hf2 h0 (by omega)
            refine Evn.eq fun k => ?_
            have hr : rd V (g : Int) = IntKind.i64.wrap (rd v1 (g : Int) + rd v2 (g : Int)) := by
              rw [← hV]
              unfold vecOf toS
              simp only [ne_eq]
              rw [if_neg (by omega), if_neg (by omega), ← e3, ← q3]
              simp [rd, show g < 8 by omega]
            simp only [decide_eq_false t, Bool.false_eq_true, if_false, e1, q1, Option.bind_some, atL_rd (show 0 ≤ (g : Int) by omega) (show (g : Int) < v1.length by omega), atL_rd (show 0 ≤ (g : Int) by omega) (show (g : Int) < v2.length by omega), hr]
        · simp only [toL_eq, decide_eq_false h0, Bool.not_false, if_true]
          have hck := checkS_ok.1 (hw h0)
          have hr : rd V (g : Int) = (bytesOf x.1).foldl (cntS (g : Int)) 0 := by
            rw [← hV]
            unfold vecOf
            rw [if_pos (show (toS x).f0.size ≠ 0 from h0)]
            exact leaf_rd hck.2 (by omega) (by omega)
          refine Evn.bind (a := Sum.inl ((bytesOf x.1).foldl (cntS (g : Int)) 0, (g : Int), all, x.2.2.2.1, x.2.2.1, x.2.1, x.1, out, ())) (EvI.ev ?_) (Evn.eq fun k => by simp only [sumE, hr])
          refine EvI.inv (fun a b => ∃ i : Nat, a = ((i : Int), ((bytesOf x.1).take i).foldl (cntS (g : Int)) 0, (g : Int), all, x.2.2.2.1, x.2.2.1, x.2.1, x.1, out, ()) ∧ i ≤ x.1.size ∧ b = Sum.inl ((bytesOf x.1).foldl (cntS (g : Int)) 0, (g : Int), all, x.2.2.2.1, x.2.2.1, x.2.1, x.1, out, ())) (fun a => x.1.size - a.1.toNat) ?_ _ _ ⟨0, rfl, Nat.zero_le _, rfl⟩
          rintro a b ⟨i, rfl, hi, rfl⟩
          by_cases his : i < x.1.size
          · have hc : (i : Int) < (x.1.size : Int) := by omega
            have hat := atB_bt (s := x.1) (show (0 : Int) ≤ (i : Int) by omega) hc
            have hwi : IntKind.i64.wrap ((i : Int) + 1) = ((i + 1 : Nat) : Int) := by rw [i64w (by omega) (by omega)]; omega
            have w97 : IntKind.u8.wrap (IntKind.i64.wrap ((97 : Int) + (g : Int))) = 97 + (g : Int) := by rw [i64w (by omega) (by omega), u8w (by omega) (by omega)]
            have w65 : IntKind.u8.wrap (IntKind.i64.wrap ((65 : Int) + (g : Int))) = 65 + (g : Int) := by rw [i64w (by omega) (by omega), u8w (by omega) (by omega)]
            refine ⟨.inl (((i + 1 : Nat) : Int), ((bytesOf x.1).take (i + 1)).foldl (cntS (g : Int)) 0, (g : Int), all, x.2.2.2.1, x.2.2.1, x.2.1, x.1, out, ()), Evn.eq fun k => ?_, ?_, i + 1, rfl, by omega, rfl⟩
            · rw [take_bytes his, List.foldl_append]
              simp only [List.foldl_cons, List.foldl_nil]
              generalize ((bytesOf x.1).take i).foldl (cntS (g : Int)) 0 = m
              unfold cntS
              simp only [decide_eq_true hc, if_true, hat, Option.bind_some, w97, w65, hwi]
              by_cases c1 : bt x.1 (i : Int) = 97 + (g : Int)
              · have c2 : ¬ bt x.1 (i : Int) = 65 + (g : Int) := by omega
                have b1 : (bt x.1 (i : Int) == 97 + (g : Int)) = true := by simpa using c1
                have b2 : (bt x.1 (i : Int) == 65 + (g : Int)) = false := by simpa using c2
                simp only [b1, if_true, Option.bind_some, sumE, hat, b2, Bool.false_eq_true, if_false, if_pos c1, w65, hwi]
              · have b1 : (bt x.1 (i : Int) == 97 + (g : Int)) = false := by simpa using c1
                by_cases c2 : bt x.1 (i : Int) = 65 + (g : Int)
                · have b2 : (bt x.1 (i : Int) == 65 + (g : Int)) = true := by simpa using c2
                  simp only [b1, Option.bind_some, sumE, hat, b2, Bool.false_eq_true, if_false, if_true, if_neg c1, if_pos c2, w65, hwi]
                · have b2 : (bt x.1 (i : Int) == 65 + (g : Int)) = false := by simpa using c2
                  simp only [b1, Option.bind_some, sumE, hat, b2, Bool.false_eq_true, if_false, if_neg c1, if_neg c2, w65, hwi]
            · simp only []
              omega
          · have hie : i = x.1.size := by omega
            have hall : (bytesOf x.1).take i = bytesOf x.1 := List.take_of_length_le (by rw [bytesOf_length]; omega)
            refine ⟨.inr (.inl ((bytesOf x.1).foldl (cntS (g : Int)) 0, (g : Int), all, x.2.2.2.1, x.2.2.1, x.2.1, x.1, out, ())), Evn.eq fun k => ?_, rfl⟩
            rw [hall]
            simp [his]
      · have c2 : (0 : Int) ≤ (g : Int) ∧ (g : Int) < (out.length : Int) := by omega
        simp only [sumE, if_pos c2, atL_rd c2.1 c2.2, Option.bind_some, hw1, Int.toNat_natCast]
    · simp only []
      omega
    · rw [List.getElem?_set]
      by_cases hj' : g = j
      · subst hj'
        rw [if_pos rfl, if_pos (by omega), List.getElem?_eq_getElem (by omega)]
        simp [rd, List.getElem?_eq_getElem (show g < V.length by omega)]
      · rw [if_neg hj']
        exact hout j (by omega)
theorem F27_some {l : List Nd} {o : List Int} (hs : Short l) (h : lens (mS l) = some o) : Evn (fun k => F27 k (l, ())) (0, ()) := by
  unfold F27
  simp only []
  exact Evn.bind (F35_some hs h) (Evn.eq fun k => rfl)
theorem F27_none {l : List Nd} (hs : Short l) (h : lens (mS l) = none) : Evn (fun k => F27 k (l, ())) (20, ()) := by
  unfold F27
  simp only []
  exact Evn.bind (F35_none hs h) (Evn.eq fun k => rfl)
theorem F25_none {l : List Nd} (hs : Short l) (h : lens (mS l) = none) : Evn (fun k => F25 k (l, ())) ([], 20, ()) := by
  unfold F25
  simp only []
  exact Evn.bind (F27_none hs h) (Evn.eq fun k => rfl)
theorem F25_some {l : List Nd} {o : List Int} (hs : Short l) (h : lens (mS l) = some o) : Evn (fun k => F25 k (l, ())) (sumsV (mS l), 0, ()) := by
  have hr := rope_of h
  have hle := hr.le
  have hvl := vecs_len (mS l)
  rw [mS_len] at hle hvl
  unfold F25
  simp only []
  refine Evn.bind (F27_some hs h) ?_
  simp only [bne_self_eq_false, Bool.false_eq_true, if_false]
  refine Evn.bind (a := Sum.inl (l, vecs (mS l), ())) (EvI.ev ?_) (Evn.eq fun k => ?_)
  · refine EvI.inv (fun a b => ∃ i : Nat, a = ((i : Int), l, (vecs (mS l)).take i, ()) ∧ i ≤ l.length ∧ b = Sum.inl (l, vecs (mS l), ())) (fun a => l.length - a.1.toNat) ?_ _ _ ⟨0, rfl, Nat.zero_le _, rfl⟩
    rintro a b ⟨i, rfl, hi, rfl⟩
    by_cases hil : i < l.length
    · have hx : l[i]? = some l[i] := List.getElem?_eq_getElem hil
      obtain ⟨x, hxx⟩ : ∃ x, l[i] = x := ⟨_, rfl⟩
      rw [hxx] at hx
      have hxm : (mS l)[i]? = some (toS x) := by rw [List.getElem?_map, hx]; rfl
      obtain ⟨v, hv, v1, v2, hn⟩ := hr.is hxm
      have hw : IntKind.i64.wrap ((i : Int) + 1) = ((i + 1 : Nat) : Int) := by rw [i64w (by omega) (by omega)]; omega
      have hent : ∀ j : Nat, j < i → (vecs (mS l))[j]?.map List.length = some 8 := fun j hj => by
        have hjl : j < (mS l).length := by rw [mS_len]; omega
        have h1 := vecs_at (List.getElem?_eq_getElem hjl)
        have h2 : (vecs (mS l))[j]? = some ((vecs (mS l))[j]'(by omega)) := List.getElem?_eq_getElem (by omega)
        rw [h2, Option.map_some]
        rw [List.getD_eq_getElem?_getD, h2] at h1
        simp only [Option.getD_some] at h1
        rw [h1, vecOf_len]
      have child : ∀ f : Int, 0 ≤ f → f < i → ∃ v, atL ((vecs (mS l)).take i) f = some v ∧ v.length = 8 ∧ v = ((vecs (mS l)).take i).getD f.toNat [] := fun f f0 f1 => by
        have hft : f.toNat < i := by omega
        have h2 : (vecs (mS l))[f.toNat]? = some ((vecs (mS l))[f.toNat]'(by omega)) := List.getElem?_eq_getElem (by omega)
        have h3 := hent f.toNat hft
        rw [h2, Option.map_some, Option.some.injEq] at h3
        refine ⟨_, ?_, h3, ?_⟩
        · unfold atL
          rw [if_pos f0, List.getElem?_take, if_pos hft, h2]
        · rw [List.getD_eq_getElem?_getD, List.getElem?_take, if_pos hft, h2]
          rfl
      have h47 := F47_ev (l := l) (all := (vecs (mS l)).take i) (n := (i : Int)) (atL_nat hx) (fun h0 => by
          have h0' : (toS x).f0.size ≠ 0 := h0
          exact leaf_ok hr hxm h0') (by
          cases hn with
          | leaf q _ =>
            obtain ⟨w, hs', _⟩ := hr.node i _ hxm
            unfold stepL at hs'
            rw [if_neg q] at hs'
            split at hs'
            · rename_i hc
              have : (toS x).f3 = 0 := hc.2.2.2.1
              exact Int.le_of_eq this.symm
            · cases hs'
          | times _ q _ _ _ _ =>
            have q' : 1 ≤ x.2.2.2.1 := q
            omega
          | pair _ q _ _ _ _ _ => exact Int.le_of_eq q.symm) (fun h0 => by
          cases hn with
          | leaf q _ => exact absurd h0 q
          | times _ _ a b _ _ => exact child _ a b
          | pair _ _ a b _ _ _ => exact child _ a b) (fun h0 h3 => by
          cases hn with
          | leaf q _ => exact absurd h0 q
          | times _ q _ _ _ _ =>
            have q' : 1 ≤ x.2.2.2.1 := q
            omega
          | pair _ _ _ _ a b _ => exact child _ a b)
      refine ⟨.inl (((i + 1 : Nat) : Int), l, (vecs (mS l)).take (i + 1), ()), ?_, ?_, i + 1, rfl, by omega, rfl⟩
      · have hc : (i : Int) < (l.length : Int) := by omega
        simp only [decide_eq_true hc, if_true]
        refine Evn.bind h47 (Evn.eq fun k => ?_)
        have hb : bigB (((vecs (mS l)).take i).length + ((List.replicate (1 : Nat) []).set (0 : Nat) (vecOf ((vecs (mS l)).take i) (toS x))).length) (24 : Nat) = false := bigF (by simp only [List.length_take, List.length_set, List.length_replicate]; omega) (by omega)
        have ht : (vecs (mS l)).take i ++ (List.replicate (1 : Nat) []).set (0 : Nat) (vecOf ((vecs (mS l)).take i) (toS x)) = (vecs (mS l)).take (i + 1) := by
          have h1 := vecs_at hxm
          have h2 : (vecs (mS l))[i]? = some ((vecs (mS l))[i]'(by omega)) := List.getElem?_eq_getElem (by omega)
          rw [List.getD_eq_getElem?_getD, h2] at h1
          simp only [Option.getD_some] at h1
          rw [List.take_add_one, h2, h1]
          rfl
        simp only [hb, Bool.false_eq_true, if_false, hw, ht]
      · simp only []
        omega
    · have hie : i = l.length := by omega
      refine ⟨.inr (.inl (l, vecs (mS l), ())), Evn.eq fun k => ?_, rfl⟩
      have hall : (vecs (mS l)).take i = vecs (mS l) := List.take_of_length_le (by omega)
      rw [hall]
      simp [hil]
  · simp only [sumE]
    unfold sumsV
    by_cases h0 : l.length = 0
    · rw [if_pos (by simp [h0]), if_pos (by omega), if_pos (by rw [mS_len]; exact h0)]
      rfl
    · have hc : (0 : Int) ≤ IntKind.i64.wrap (((vecs (mS l)).length : Int) - 1) ∧ IntKind.i64.wrap (((vecs (mS l)).length : Int) - 1) < ((vecs (mS l)).length : Int) := by rw [i64w (by omega) (by omega)]; omega
      have e1 : ((vecs (mS l)).length : Int) - 1 = ((l.length - 1 : Nat) : Int) := by omega
      have h2 : (vecs (mS l))[l.length - 1]? = some ((vecs (mS l))[l.length - 1]'(by omega)) := List.getElem?_eq_getElem (by omega)
      rw [if_neg (by simpa using h0), if_pos hc, i64w (by omega) (by omega), e1, atL_nat h2, if_neg (by rw [mS_len]; exact h0), mS_len, List.getD_eq_getElem?_getD, h2]
      rfl
theorem F28_same {l : List Int} (hl : l.length ≤ 8) : Evn (fun k => F28 k (l, l, ())) (true, ()) := by
  unfold F28
  simp only [bne_self_eq_false, Bool.false_eq_true, if_false]
  refine Evn.bind (a := Sum.inr (Sum.inl ())) (EvI.ev ?_) (Evn.now _)
  refine EvI.inv (fun a b => ∃ i : Nat, a = ((i : Int), l, l, ()) ∧ i ≤ l.length ∧ b = Sum.inr (Sum.inl ())) (fun a => l.length - a.1.toNat) ?_ _ _ ⟨0, rfl, Nat.zero_le _, rfl⟩
  rintro a b ⟨i, rfl, hi, rfl⟩
  by_cases hil : i < l.length
  · have hc : (i : Int) < (l.length : Int) := by omega
    have hw : IntKind.i64.wrap ((i : Int) + 1) = ((i + 1 : Nat) : Int) := by rw [i64w (by omega) (by omega)]; omega
    refine ⟨.inl (((i + 1 : Nat) : Int), l, l, ()), Evn.eq fun k => ?_, ?_, i + 1, rfl, by omega, rfl⟩
    · simp only [decide_eq_true hc, if_true, atL_rd (show (0 : Int) ≤ (i : Int) by omega) hc, Option.bind_some, bne_self_eq_false, Bool.false_eq_true, if_false, hw]
    · simp only []
      omega
  · refine ⟨.inr (.inr (.inl ())), Evn.eq fun k => ?_, rfl⟩
    simp [hil]
theorem law_checks {l : List Nd} (hs : Short l) : Evn (fun k => F7 k (l, ())) (true, ()) := by
  unfold F7
  simp only []
  cases h : lens (mS l) with
  | none =>
    have h23 : Evn (fun k => F23 k (l, ())) (0, 20, ()) := Evn.eq fun k => by
      unfold F23
      simp only [G31_none k h, Option.bind_some]
      rw [F32_ev k (o := []) (by simp)]
      rfl
    have h24 : Evn (fun k => F24 k (l, ())) ([], 20, ()) := Evn.eq fun k => by
      unfold F24
      have : lens (l.map toS) = none := h
      simp only [this]
    refine Evn.bind h23 (Evn.bind (F12_none hs h) (Evn.bind h24 (Evn.bind (F25_none hs h) (Evn.bind (a := (true, ())) (Evn.eq fun k => rfl) ?_))))
    simp only [if_true]
    refine Evn.bind (a := (20, ())) (Evn.eq fun k => by unfold F26; simp only [G31_none k h, Option.bind_some]) (Evn.bind (F27_none hs h) ?_)
    simp only [beq_self_eq_true, if_true]
    exact Evn.bind (F28_same (l := []) (by simp)) (Evn.now _)
  | some o =>
    have hr := rope_of h
    have hle := hr.le
    have hlen := hr.len
    have h23 : Evn (fun k => F23 k (l, ())) (wholeL o, 0, ()) := Evn.eq fun k => by
      unfold F23
      simp only [G31_some k h, Option.bind_some]
      rw [F32_ev k (o := o) (by omega)]
      rfl
    have h24 : Evn (fun k => F24 k (l, ())) (sumsV (mS l), 0, ()) := Evn.eq fun k => by
      unfold F24
      have : lens (l.map toS) = some o := h
      simp only [this]
    refine Evn.bind h23 (Evn.bind (F12_some hs h) (Evn.bind h24 (Evn.bind (F25_some hs h) (Evn.bind (a := (true, ())) (Evn.eq fun k => rfl) ?_))))
    simp only [if_true]
    refine Evn.bind (a := (0, ())) (Evn.eq fun k => by unfold F26; simp only [G31_some k h, Option.bind_some]) (Evn.bind (F27_some hs h) ?_)
    simp only [beq_self_eq_true, if_true]
    exact Evn.bind (F28_same (l := sumsV (mS l)) (by rw [sumsV_len]; omega)) (Evn.now _)
end Go.Proofs.YtehbekgmemebjaaDoorEv
namespace Go.Proofs.YtehbekgmemebjaaDoor.PAll
open Go Go.RowKit
theorem glob_cells {w : World} {fuel : Nat} {cs : Array Value} {p : List MemPlace} (hd : DataW.trod (fun _ => ()) Tryd.prog w 0 (fun _ => true) false fuel 106 cs.toList = some (Rows.laid_cayley_word_letters, p)) :
    cs = #[.int .u8 97, .int .u8 65, .int .u8 98, .int .u8 66, .int .u8 99, .int .u8 67, .int .u8 100, .int .u8 68, .int .u8 101, .int .u8 69, .int .u8 102, .int .u8 70, .int .u8 103, .int .u8 71, .int .u8 104, .int .u8 72] := by
  obtain ⟨xs, m, e, hx, hl, hn, hel⟩ := DataW.trod_array Tryd.underlying106 hd
  have c5 : Tryd.prog.cellsOf 5 = 1 := by kernel_rfl
  have c106 : Tryd.prog.cellsOf 106 = 16 := by kernel_rfl
  rw [c106] at hl
  simp only [Prod.mk.injEq, Rows.laid_cayley_word_letters, DataW.agg.injEq] at hx
  have hlx : xs.length = 16 := hn
  apply Array.toList_inj.1
  apply List.ext_getElem?
  intro i
  by_cases hi : i < 16
  · have h1 := hel i hi
    rw [c5] at h1
    have hx1 : xs[i]? = some (xs[i]'(by omega)) := List.getElem?_eq_getElem (by omega)
    rw [hx1] at h1
    obtain ⟨k, e1, e2, _⟩ := DataW.trod_int Tryd.underlying5 h1
    have e3 : cs.toList[i]? = some (.int .u8 k) := by
      have := congrArg (fun l => l[0]?) e1
      simpa [List.getElem?_take, List.getElem?_drop] using this
    rw [e3]
    have e4 : (xs.map (·.1))[i]? = some (.lit (.int .u8 k)) := by rw [List.getElem?_map, hx1, e2]; rfl
    rw [← hx.1] at e4
    have h16 : i = 0 ∨ i = 1 ∨ i = 2 ∨ i = 3 ∨ i = 4 ∨ i = 5 ∨ i = 6 ∨ i = 7 ∨ i = 8 ∨ i = 9 ∨ i = 10 ∨ i = 11 ∨ i = 12 ∨ i = 13 ∨ i = 14 ∨ i = 15 := by omega
    rcases h16 with rfl | rfl | rfl | rfl | rfl | rfl | rfl | rfl | rfl | rfl | rfl | rfl | rfl | rfl | rfl | rfl <;>
    · have e5 := DataW.lit.inj (Option.some.inj e4)
      cases e5
      rfl
  · rw [List.getElem?_eq_none (by omega), List.getElem?_eq_none (by simp; omega)]
end Go.Proofs.YtehbekgmemebjaaDoor.PAll
