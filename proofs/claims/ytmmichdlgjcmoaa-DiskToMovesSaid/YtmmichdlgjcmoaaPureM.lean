import Derived.Test.YtmmichdlgjcmoaaPAllx0
import Derived.Test.YtmmichdlgjcmoaaPAllx20
import Derived.Test.YtmmichdlgjcmoaaPureL
import Derived.Test.YtmmichdlgjcmoaaExtD
namespace Go.Proofs.Ytmmichdlgjcmoaa.PAll
open Go.RowKit Go.Proofs.YtmmichdlgjcmoaaW.PrintWords Go.Proofs.YtmmichdlgjcmoaaW.PrintLast Go.Proofs.YtmmichdlgjcmoaaW.PrintMore H
set_option linter.unusedVariables false
set_option linter.unusedSimpArgs false
namespace H
theorem bytesOf_inj {a b : ByteArray} (h : bytesOf a = bytesOf b) : a = b := by
  apply ByteArray.ext
  apply Array.ext'
  unfold bytesOf at h
  exact (List.map_inj_right (fun x y hxy => UInt8.toNat_inj.1 (Int.ofNat.inj hxy))).1 h
theorem letter_index {x : Int} (h : isL x) : letterB (index x) = x ∧ 0 ≤ index x ∧ index x < 16 := by
  rcases isL_cases h with h | h | h | h | h | h | h | h | h | h | h | h | h | h | h | h <;> (subst h; exact ⟨by rfl, by decide, by decide⟩)
def Goes (g : Int) (rels : List ByteArray) (s : ByteArray) (ms : List S52) (v : ByteArray) : Prop := ∀ cs, ∃ cs', walkS g rels (s, cs) ms = some (v, cs')
theorem Goes.nil (g : Int) (rels : List ByteArray) (s : ByteArray) : Goes g rels s [] s := fun cs => ⟨cs, rfl⟩
theorem Goes.app {g : Int} {rels : List ByteArray} {s v u : ByteArray} {ms ns : List S52} (h : Goes g rels s ms v) (k : Goes g rels v ns u) : Goes g rels s (ms ++ ns) u := fun cs => by
  obtain ⟨c1, h1⟩ := h cs
  obtain ⟨c2, h2⟩ := k c1
  exact ⟨c2, by rw [walkS_app, h1]; exact h2⟩
theorem Goes.one {g : Int} {rels : List ByteArray} {s v : ByteArray} {m : S52} {l : List S59} (hs : s.size ≤ 100000) (hv : v.size ≤ 100000) (h : moveS g rels s m = some (v, l)) : Goes g rels s [m] v := fun cs => by
  refine ⟨cs ++ l, ?_⟩
  rw [walkS_cons, step_move g rels s cs m hs, h, Option.bind_some]
  dsimp only
  rw [if_pos hv]
  rfl
theorem size_bytes {v : ByteArray} {xs : List Int} (h : bytesOf v = xs) : v.size = xs.length := by rw [← h, bytesOf_length]
theorem ins_pair {g : Int} {rels : List ByteArray} {s : ByteArray} {p q : List Int} {x : Int} (hg : 1 ≤ g ∧ g ≤ 8) (hb : bytesOf s = p ++ q) (hx : letterOk g x = true) (hs : s.size + 2 ≤ 100000) :
    ∃ v, bytesOf v = p ++ ([x, otherB x] ++ q) ∧ Goes g rels s [⟨1, (p.length : Int), index x, 0, 0, false⟩] v := by
  obtain ⟨h1, h2, h3⟩ := letter_index (isL_of hx)
  unfold letterOk at hx
  simp only [Bool.and_eq_true, decide_eq_true_eq] at hx
  have hsz := size_bytes hb
  rw [List.length_append] at hsz
  have hm : moveS g rels s ⟨1, (p.length : Int), index x, 0, 0, false⟩ = some (repl s p.length 0 (pairS (index x)), []) := by
    unfold moveS
    rw [if_pos rfl]
    exact if_pos ⟨by show (0 : Int) ≤ p.length; omega, by show (p.length : Int) ≤ s.size; omega, hx.1, hx.2⟩
  have hbv : bytesOf (repl s p.length 0 (pairS (index x))) = p ++ ([x, otherB x] ++ q) := by
    rw [bytesOf_repl, bytesOf_pair h2 h3, h1, hb]
    simp
  refine ⟨_, hbv, Goes.one (by omega) ?_ hm⟩
  rw [size_bytes hbv]
  simp
  omega
theorem ins_pairs {g : Int} {rels : List ByteArray} {s : ByteArray} (hg : 1 ≤ g ∧ g ≤ 8) (c : S59) (hw : isWordL g (bytesOf c.f0) = true) (hs : s.size + 2 * c.f0.size ≤ 100000) : ∀ i, i ≤ c.f0.size →
    ∃ v, bytesOf v = (bytesOf c.f0).take i ++ (invL ((bytesOf c.f0).take i) ++ bytesOf s) ∧ Goes g rels s ((insPairs c).take i) v := by
  intro i
  induction i with
  | zero => intro _; exact ⟨s, by simp [invL], Goes.nil _ _ _⟩
  | succ i ih =>
    intro hi
    obtain ⟨v, hv, hG⟩ := ih (by omega)
    have hok : letterOk g (bt c.f0 (i : Int)) = true := by
      unfold isWordL at hw
      simp only [Bool.and_eq_true, List.all_eq_true] at hw
      refine hw.2 _ ?_
      have := take_bytes c.f0 i (by omega)
      have hm : bt c.f0 (i : Int) ∈ (bytesOf c.f0).take (i + 1) := by rw [this]; simp
      exact List.mem_of_mem_take hm
    have hvz := size_bytes hv
    have hlt : ((bytesOf c.f0).take i).length = i := by rw [List.length_take, bytesOf_length]; omega
    have hli : (invL ((bytesOf c.f0).take i)).length = i := by simp [invL, bytesOf_length]; omega
    rw [List.length_append, List.length_append, hlt, hli, bytesOf_length] at hvz
    obtain ⟨v2, hv2, hG2⟩ := ins_pair (rels := rels) hg hv hok (by omega)
    rw [hlt] at hG2
    refine ⟨v2, ?_, ?_⟩
    · rw [hv2, take_bytes c.f0 i (by omega), invL_app, invL_one]
      simp
    · rw [insPairs_take c i (by omega)]
      exact Goes.app hG hG2
theorem ins_rel {g : Int} {rels : List ByteArray} {s : ByteArray} {p q : List Int} {rel : Int} {inv : Bool} (hr : relsL rels) (h0 : 0 ≤ rel) (h1 : rel < rels.length) (h2 : 1 ≤ (rdOf ByteArray.empty rels rel).size) (hb : bytesOf s = p ++ q) (hs : s.size + (rdOf ByteArray.empty rels rel).size ≤ 100000) :
    ∃ v, bytesOf v = p ++ (bytesOf (sideS rels rel inv) ++ q) ∧ Goes g rels s [⟨3, (p.length : Int), 0, rel, 0, inv⟩] v := by
  have hsz := size_bytes hb
  rw [List.length_append] at hsz
  have hok : relOkM rels ⟨3, (p.length : Int), 0, rel, 0, inv⟩ = true := relOkM_iff.2 ⟨h0, h1, Int.le_refl _, by show (0 : Int) < ((sideS rels rel inv).size : Int); rw [side_size]; omega⟩
  have hm := moveS_three (g := g) (rels := rels) (s := s) (m := ⟨3, (p.length : Int), 0, rel, 0, inv⟩) rfl
  rw [if_pos ⟨hok, by show (0 : Int) ≤ p.length; omega, by show (p.length : Int) ≤ s.size; omega⟩] at hm
  have hrot : bytesOf (rotM rels ⟨3, (p.length : Int), 0, rel, 0, inv⟩) = bytesOf (sideS rels rel inv) := by
    unfold rotM beforeM relM
    rw [bytesOf_cat, bytesOf_extract, bytesOf_extract]
    show List.drop 0 (List.take (sideS rels rel inv).size (bytesOf (sideS rels rel inv))) ++ List.drop 0 (List.take 0 (bytesOf (sideS rels rel inv))) = _
    rw [List.take_of_length_le (by rw [bytesOf_length]; exact Nat.le_refl _)]
    simp
  have hbv : bytesOf (repl s ((p.length : Nat) : Int).toNat 0 (rotM rels ⟨3, (p.length : Int), 0, rel, 0, inv⟩)) = p ++ (bytesOf (sideS rels rel inv) ++ q) := by
    rw [bytesOf_repl, hrot, hb]
    simp
  refine ⟨_, hbv, Goes.one (by omega) ?_ hm⟩
  rw [size_bytes hbv]
  simp only [List.length_append, bytesOf_length, side_size]
  omega
theorem ins_cell {g : Int} {rels : List ByteArray} {s : ByteArray} (hg : 1 ≤ g ∧ g ≤ 8) (hr : relsL rels) (c : S59) (h0 : 0 ≤ c.f1) (h1 : c.f1 < rels.length) (h2 : 1 ≤ (rdOf ByteArray.empty rels c.f1).size) (hw : isWordL g (bytesOf c.f0) = true) (hs : s.size + 2 * c.f0.size + (rdOf ByteArray.empty rels c.f1).size ≤ 100000) :
    Goes g rels s (insCell c) (c.f0 ++ sideS rels c.f1 (!c.f2) ++ invS c.f0 ++ s) := by
  obtain ⟨v, hv, hG⟩ := ins_pairs (rels := rels) (s := s) hg c hw (by omega) c.f0.size (Nat.le_refl _)
  have e1 : (bytesOf c.f0).take c.f0.size = bytesOf c.f0 := List.take_of_length_le (by rw [bytesOf_length]; exact Nat.le_refl _)
  have e2 : (insPairs c).take c.f0.size = insPairs c := List.take_of_length_le (by rw [insPairs_len]; exact Nat.le_refl _)
  rw [e1] at hv
  rw [e2] at hG
  have hvz := size_bytes hv
  simp only [List.length_append, bytesOf_length, invL, List.length_reverse, List.length_map] at hvz
  obtain ⟨v2, hv2, hG2⟩ := ins_rel (g := g) (inv := !c.f2) hr h0 h1 h2 hv (by omega)
  rw [bytesOf_length] at hG2
  have : v2 = c.f0 ++ sideS rels c.f1 (!c.f2) ++ invS c.f0 ++ s := by
    apply bytesOf_inj
    rw [hv2]
    simp only [bytesOf_cat, List.append_assoc, bytesOf_invS (allL_of hw)]
  rw [← this]
  exact Goes.app hG hG2
theorem ins_all {g : Int} {rels : List ByteArray} (hg : 1 ≤ g ∧ g ≤ 8) (hr : relsL rels) (hr1 : ∀ r ∈ rels, 1 ≤ r.size) : ∀ (d : List S59) (s : ByteArray), (∀ c ∈ d, 0 ≤ c.f1 ∧ c.f1 < rels.length ∧ isWordL g (bytesOf c.f0) = true) → s.size + 2 * sumC rels d ≤ 100000 → Goes g rels s (d.flatMap insCell) (wordC rels s d) := by
  intro d
  induction d with
  | nil => intro s _ _; exact Goes.nil _ _ _
  | cons c d ih =>
    intro s hc hs
    rw [sumC_cons] at hs
    obtain ⟨h0, h1, hw⟩ := hc c (List.mem_cons_self ..)
    rw [List.flatMap_cons]
    have h2 := hr1 _ (rdOf_mem h0 h1)
    refine Goes.app (ins_cell hg hr c h0 h1 h2 hw (by omega)) ?_
    exact ih _ (fun x hx => hc x (List.mem_cons_of_mem _ hx)) (by simp only [ByteArray.size_append, invS_size, side_size]; omega)
theorem del_out : ∀ (xs : List Int) (st : List Int) (o : List S52), (xs.foldl delStep (st, o)).2 = o ++ (xs.foldl delStep (st, [])).2 ∧ (xs.foldl delStep (st, o)).1 = (xs.foldl delStep (st, [])).1 := by
  intro xs
  induction xs with
  | nil => intro st o; simp
  | cons x xs ih =>
    intro st o
    simp only [List.foldl_cons]
    by_cases hp : 0 < st.length
    · by_cases hc : canc (rd st ((st.length : Int) - 1)) x = true
      · rw [del_cut hp hc, del_cut hp hc]
        obtain ⟨a1, a2⟩ := ih (st.take (st.length - 1)) (o ++ [⟨2, (st.length : Int) - 1, 0, 0, 0, false⟩])
        obtain ⟨b1, b2⟩ := ih (st.take (st.length - 1)) ([] ++ [⟨2, (st.length : Int) - 1, 0, 0, 0, false⟩])
        rw [a1, a2, b1, b2]
        simp
      · have hc' : canc (rd st ((st.length : Int) - 1)) x = false := by simpa using hc
        rw [del_add (fun _ => hc'), del_add (fun _ => hc')]
        exact ih (st ++ [x]) o
    · rw [del_add (fun h => absurd h hp), del_add (fun h => absurd h hp)]
      exact ih (st ++ [x]) o
theorem bt_of_bytes {s : ByteArray} {p : List Int} {x : Int} {q : List Int} (h : bytesOf s = p ++ x :: q) : bt s (p.length : Int) = x := bytesOf_at s p x q h
theorem del_all {g : Int} {rels : List ByteArray} : ∀ (xs : List Int) (st : List Int) (v : ByteArray), bytesOf v = st ++ xs → v.size ≤ 100000 →
    ∃ u, bytesOf u = act st xs ∧ Goes g rels v (xs.foldl delStep (st, [])).2 u := by
  intro xs
  induction xs with
  | nil => intro st v hb hv; exact ⟨v, by rw [hb, List.append_nil]; rfl, Goes.nil _ _ _⟩
  | cons x xs ih =>
    intro st v hb hv
    rw [act_cons]
    simp only [List.foldl_cons]
    by_cases hp : 0 < st.length
    · by_cases hc : canc (rd st ((st.length : Int) - 1)) x = true
      · rw [del_cut hp hc, (del_out _ _ _).1, List.nil_append, pushW_cut hp hc]
        obtain ⟨p, y, rfl⟩ : ∃ p y, st = p ++ [y] := by
          rcases snoc_split st with h | h
          · rw [h] at hp; simp at hp
          · exact h
        have hy : rd (p ++ [y]) (((p ++ [y]).length : Int) - 1) = y := by simp [rd]
        rw [hy] at hc
        have htk : (p ++ [y]).take ((p ++ [y]).length - 1) = p := by simp
        rw [htk]
        have hb1 : bytesOf v = p ++ y :: (x :: xs) := by rw [hb]; simp
        have hb2 : bytesOf v = (p ++ [y]) ++ x :: xs := by rw [hb]
        have hvz := size_bytes hb1
        simp only [List.length_append, List.length_cons] at hvz
        have b1 := bt_of_bytes hb1
        have b2 := bt_of_bytes hb2
        have hlen : ((p ++ [y]).length : Int) = (p.length : Int) + 1 := by simp
        rw [hlen] at b2 ⊢
        rw [show (p.length : Int) + 1 - 1 = (p.length : Int) by omega]
        have hm : moveS g rels v ⟨2, (p.length : Int), 0, 0, 0, false⟩ = some (repl v p.length 2 ⟨#[]⟩, []) := by
          unfold moveS
          rw [if_neg (by show ¬ (2 : Int) = 1; decide), if_pos rfl]
          exact if_pos ⟨by show (0 : Int) ≤ p.length; omega, by show (p.length : Int) ≤ v.size - 2; omega, by show canc (bt v (p.length : Int)) (bt v ((p.length : Int) + 1)) = true; rw [b1, b2]; exact hc⟩
        have hbv : bytesOf (repl v p.length 2 ⟨#[]⟩) = p ++ xs := by
          rw [bytesOf_repl, bytesOf_nil, hb1]
          have e1 : List.take p.length (p ++ y :: x :: xs) = p := by simp
          have e2 : List.drop (p.length + 2) (p ++ y :: x :: xs) = xs := by
            rw [← List.drop_drop]
            simp
          rw [e1, e2, List.append_nil]
        have hz : (repl v p.length 2 ⟨#[]⟩).size ≤ 100000 := by
          rw [size_bytes hbv]; simp only [List.length_append]; omega
        obtain ⟨u, hu, hG⟩ := ih p _ hbv hz
        exact ⟨u, hu, Goes.app (Goes.one hv hz hm) hG⟩
      · have hc' : canc (rd st ((st.length : Int) - 1)) x = false := by simpa using hc
        rw [del_add (fun _ => hc'), pushW_add (fun _ => hc')]
        exact ih (st ++ [x]) v (by rw [hb]; simp) hv
    · rw [del_add (fun h => absurd h hp), pushW_add (fun h => absurd h hp)]
      exact ih (st ++ [x]) v (by rw [hb]; simp) hv
theorem del_count : ∀ (xs : List Int) (st : List Int), (xs.foldl delStep (st, [])).2.length ≤ xs.length ∧ relC (xs.foldl delStep (st, [])).2 = 0 := by
  intro xs
  induction xs with
  | nil => intro st; exact ⟨Nat.le_refl _, rfl⟩
  | cons x xs ih =>
    intro st
    simp only [List.foldl_cons]
    by_cases hp : 0 < st.length
    · by_cases hc : canc (rd st ((st.length : Int) - 1)) x = true
      · rw [del_cut hp hc, (del_out _ _ _).1, List.nil_append]
        obtain ⟨h1, h2⟩ := ih (st.take (st.length - 1))
        refine ⟨by rw [List.length_append, List.length_singleton, List.length_cons]; omega, ?_⟩
        rw [List.singleton_append, relC_cons, h2]
        rfl
      · have hc' : canc (rd st ((st.length : Int) - 1)) x = false := by simpa using hc
        rw [del_add (fun _ => hc')]
        obtain ⟨h1, h2⟩ := ih (st ++ [x])
        exact ⟨by rw [List.length_cons]; omega, h2⟩
    · rw [del_add (fun h => absurd h hp)]
      obtain ⟨h1, h2⟩ := ih (st ++ [x])
      exact ⟨by rw [List.length_cons]; omega, h2⟩
theorem relC_app (a b : List S52) : relC (a ++ b) = relC a + relC b := by simp [relC, List.sum_append]
theorem relC_cell (c : S59) : relC (insCell c) = 1 := by
  unfold insCell
  rw [relC_app]
  have : relC (insPairs c) = 0 := by
    unfold insPairs
    generalize (bytesOf c.f0).zipIdx = l
    induction l with
    | nil => rfl
    | cons a l ih => rw [List.map_cons, relC_cons, ih]; rfl
  rw [this]
  rfl
theorem relC_flat : ∀ d : List S59, relC (d.flatMap insCell) = d.length := by
  intro d
  induction d with
  | nil => rfl
  | cons c d ih => rw [List.flatMap_cons, relC_app, relC_cell, ih, List.length_cons]; omega
theorem wordC_bytes {rels : List ByteArray} (hr : relsL rels) : ∀ (d : List S59) (s : ByteArray), (∀ c ∈ d, CellL rels c) → bytesOf (wordC rels s d) = diskL rels (turnD d) ++ bytesOf s := by
  intro d
  induction d with
  | nil => intro s _; rfl
  | cons c d ih =>
    intro s hc
    have h := ih (c.f0 ++ sideS rels c.f1 (!c.f2) ++ invS c.f0 ++ s) (fun x hx => hc x (List.mem_cons_of_mem _ hx))
    show bytesOf (wordC rels (c.f0 ++ sideS rels c.f1 (!c.f2) ++ invS c.f0 ++ s) d) = _
    rw [h, turnD_snoc, diskL_cat, diskL_cons]
    simp only [bytesOf_cat, List.append_assoc]
    congr 1
    show _ = bytesOf c.f0 ++ (bytesOf (sideS rels c.f1 (!c.f2)) ++ bytesOf (invS c.f0)) ++ ([] ++ _)
    simp
end H
end Go.Proofs.Ytmmichdlgjcmoaa.PAll
