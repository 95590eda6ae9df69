import Derived.Test.YtmmichdlgjcmoaaPAllx0
import Derived.Test.YtmmichdlgjcmoaaPAllx15
import Derived.Test.YtmmichdlgjcmoaaPureL
namespace Go.Proofs.Ytmmichdlgjcmoaa.PAll
open Go.RowKit Go.Proofs.YtmmichdlgjcmoaaW.PrintWords Go.Proofs.YtmmichdlgjcmoaaW.PrintLast Go.Proofs.YtmmichdlgjcmoaaW.PrintMore H
set_option linter.unusedVariables false
set_option linter.unusedSimpArgs false
namespace H
def valL (ys : List Int) (c : Int) : Int := if 97 ≤ c then rd ys (c - 97) else - rd ys (c - 65)
def sumL (ys xs : List Int) : Int := (xs.map (valL ys)).sum
theorem sumL_nil (ys : List Int) : sumL ys [] = 0 := rfl
theorem sumL_cons (ys xs : List Int) (x : Int) : sumL ys (x :: xs) = valL ys x + sumL ys xs := by simp [sumL]
theorem sumL_app (ys xs zs : List Int) : sumL ys (xs ++ zs) = sumL ys xs + sumL ys zs := by
  induction xs with
  | nil => simp [sumL]
  | cons x xs ih => rw [List.cons_append, sumL_cons, sumL_cons, ih]; omega
def ImgOk (ys : List Int) : Prop := ys.length = 8 ∧ ∀ y ∈ ys, -1000000000 ≤ y ∧ y ≤ 1000000000
theorem rd_ok {ys : List Int} (h : ImgOk ys) {i : Int} (h0 : 0 ≤ i) (h1 : i < 8) : -1000000000 ≤ rd ys i ∧ rd ys i ≤ 1000000000 := by
  apply h.2
  have hl := h.1
  unfold rd
  rw [List.getD_eq_getElem?_getD, List.getElem?_eq_getElem (by omega)]
  exact List.getElem_mem _
theorem val_ok {ys : List Int} (h : ImgOk ys) {c : Int} (hc : isL c) : -1000000000 ≤ valL ys c ∧ valL ys c ≤ 1000000000 := by
  unfold isL at hc
  unfold valL
  split
  · have := rd_ok h (i := c - 97) (by omega) (by omega); omega
  · have := rd_ok h (i := c - 65) (by omega) (by omega); omega
theorem val_other {ys : List Int} {c : Int} (hc : isL c) : valL ys (otherB c) = - valL ys c := by
  rw [otherB_isL hc]
  unfold isL at hc
  unfold valL
  by_cases h : 97 ≤ c
  · rw [if_pos h, if_neg (by omega), if_pos h, show c - 32 - 65 = c - 97 by omega]
  · rw [if_neg h, if_pos (by omega), if_neg h, show c + 32 - 97 = c - 65 by omega]; omega
theorem sum_inv {ys : List Int} : ∀ xs, allL xs → sumL ys (invL xs) = - sumL ys xs := by
  intro xs
  induction xs with
  | nil => intro _; rfl
  | cons x xs ih =>
    intro h
    have e : invL (x :: xs) = invL xs ++ [otherB x] := by simp [invL]
    rw [e, sumL_app, sumL_cons, sumL_cons, sumL_nil, ih (fun c hc => h c (List.mem_cons_of_mem _ hc)), val_other (h x (List.mem_cons_self ..))]
    omega
theorem sum_push {ys o : List Int} {x : Int} (hx : isL x) : sumL ys (pushW canc o x) = sumL ys o + valL ys x := by
  rcases snoc_split o with rfl | ⟨p, y, rfl⟩
  · rw [push_nil, sumL_cons, sumL_nil]; omega
  · rw [push_snoc]
    by_cases hc : canc y x = true
    · rw [if_pos hc, sumL_app, sumL_cons, sumL_nil, canc_iff.1 hc, val_other hx]
      omega
    · rw [if_neg hc, sumL_app, sumL_cons, sumL_nil]
      omega
theorem sum_act {ys : List Int} : ∀ xs o, allL xs → sumL ys (act o xs) = sumL ys o + sumL ys xs := by
  intro xs
  induction xs with
  | nil => intro o _; rw [act_nil, sumL_nil]; omega
  | cons x xs ih =>
    intro o h
    rw [act_cons, ih _ (fun c hc => h c (List.mem_cons_of_mem _ hc)), sum_push (h x (List.mem_cons_self ..)), sumL_cons]
    omega
theorem sum_red {ys xs : List Int} (h : allL xs) : sumL ys (red xs) = sumL ys xs := by
  unfold red
  rw [sum_act xs [] h, sumL_nil]
  omega
theorem sum_eqv {ys xs zs : List Int} (hx : allL xs) (hz : allL zs) (h : Eqv xs zs) : sumL ys xs = sumL ys zs := by
  rw [← sum_red hx, ← sum_red hz, h.red]
def Zero (ys : List Int) (rels : List ByteArray) : Prop := ∀ r ∈ rels, sumL ys (bytesOf r) = 0
theorem sum_side {ys : List Int} {rels : List ByteArray} (hr : relsL rels) (hz : Zero ys rels) {rel : Int} (b : Bool) (h0 : 0 ≤ rel) (h1 : rel < rels.length) : sumL ys (bytesOf (sideS rels rel b)) = 0 := by
  have hm := rdOf_mem h0 h1
  unfold sideS
  cases b with
  | true => rw [if_pos rfl, bytesOf_invS (hr _ hm).2, sum_inv _ (hr _ hm).2, hz _ hm]; rfl
  | false => rw [if_neg (by decide)]; exact hz _ hm
theorem sum_cell {ys : List Int} {rels : List ByteArray} (hr : relsL rels) (hz : Zero ys rels) {c : S59} (hc : CellL rels c) : sumL ys (cellL rels c) = 0 := by
  unfold cellL
  rw [sumL_app, sumL_app, sum_side hr hz c.f2 hc.1 hc.2.1, bytesOf_invS hc.2.2, sum_inv _ hc.2.2]
  omega
theorem sum_disk {ys : List Int} {rels : List ByteArray} (hr : relsL rels) (hz : Zero ys rels) : ∀ d : List S59, (∀ c ∈ d, CellL rels c) → sumL ys (diskL rels d) = 0 := by
  intro d
  induction d with
  | nil => intro _; rfl
  | cons c d ih =>
    intro h
    rw [diskL_cons, sumL_app, sum_cell hr hz (h c (List.mem_cons_self ..)), ih (fun x hx => h x (List.mem_cons_of_mem _ hx))]
    rfl
theorem sum_moves {ys : List Int} {g : Int} {rels : List ByteArray} {s : ByteArray} {ms : List S52} {x : ByteArray × List S59} (hz : Zero ys rels) (h : movesS g rels s ms = .ok x) : sumL ys (bytesOf x.1) = sumL ys (bytesOf s) := by
  obtain ⟨hp, hw, hml, hx⟩ := movesS_ok h
  obtain ⟨i1, i2, i3, i4⟩ := movesS_inv h
  have hr := relsL_of hp
  have hL := allL_of hw
  have hc := (walk_all hr (isPresS_g hp) ms s [] x (isWordL_len hw) hL (fun c hc => by cases hc) hx).2
  have hcl : ∀ c ∈ x.2, CellL rels c := fun c hc => (i3 c hc).1
  have hdl := diskL_L hr hcl
  have := sum_eqv (ys := ys) (allL_app hdl i2) (by rw [show diskL rels [] = [] from rfl, List.nil_append]; exact hL) hc
  rw [sumL_app, sum_disk hr hz x.2 hcl, show diskL rels [] = [] from rfl, List.nil_append] at this
  omega
theorem sum_bound {ys : List Int} {g : Int} {rels : List ByteArray} {d : List S59} (hz : Zero ys rels) (hp : isPresS g rels = true) (hd : isDiskS g rels.length d = true) : sumL ys (boundL rels d) = 0 := by
  have hok := diskOk_of hp hd
  have hr := relsL_of hp
  rw [boundL_red, sum_red (diskL_L hr hok.L), sum_disk hr hz d hok.L]
theorem ref_Index_isL (c : Int) (hc : isL c) : Ev (fun k => cayleyref04_Index.f k c 8) (if 97 ≤ c then 2 * (c - 97) else 2 * (c - 65) + 1) := by
  unfold isL at hc
  unfold cayleyref04_Index.f
  by_cases a : c ≥ 97
  · simp only [if_pos a]
    refine Ev.step (f := fun _ => some (2 * (c - 97))) (fun k => ?_) (Ev.now _)
    simp only [cayleyref04_Index.j0]
    rw [if_pos (by simp; omega), show (c - 97) % 256 = c - 97 by omega]
  · simp only [if_neg a]
    refine Ev.step (f := fun _ => some (2 * (c - 65) + 1)) (fun k => ?_) (Ev.now _)
    simp only [cayleyref04_Index.j0]
    rw [if_neg (by simp), if_pos (by omega), show (c - 65) % 256 = c - 65 by omega, if_pos (by omega)]
theorem ref_Sum_l0 (ys : List Int) (hy : ImgOk ys) (s : ByteArray) (hs : s.size ≤ 1000000000) (hL : allL (bytesOf s)) : ∀ (rest pre : List Int) (n : Int), bytesOf s = pre ++ rest → -1000000000 * (pre.length : Int) ≤ n → n ≤ 1000000000 * (pre.length : Int) →
    Ev (fun k => cayleyref04_Sum.l0 k s ys n (pre.length : Int)) (n + sumL ys rest) := by
  intro rest
  have hbl := bytesOf_length s
  induction rest with
  | nil =>
    intro pre n hp h1 h2
    refine Ev.step (f := fun _ => some n) (fun k => ?_) (by rw [sumL_nil, Int.add_zero]; exact Ev.now _)
    simp only [cayleyref04_Sum.l0]
    rw [if_neg (by rw [hp, List.append_nil] at hbl; omega)]
  | cons c rest ih =>
    intro pre n hp h1 h2
    have hlen : pre.length < s.size := by rw [← hbl, hp]; simp
    have hi : wrap64 ((pre.length : Int) + 1) = ((pre ++ [c]).length : Int) := by rw [w64 (by omega) (by omega)]; simp
    have hb := bytesOf_at s pre c rest hp
    have hcl : isL c := hL c (by rw [hp]; simp)
    have hv := val_ok hy hcl
    have hyl := hy.1
    refine Ev.step (f := fun k => _) (fun k => by
      simp only [cayleyref04_Sum.l0]
      rw [if_pos (by omega), if_pos (by omega), hb]) ?_
    refine Ev.bind (ref_Index_isL c hcl) ?_
    have hcc := hcl
    unfold isL at hcc
    have hnext : ∀ n', n' = n + valL ys c → Ev (fun k => cayleyref04_Sum.l0 k s ys n' (wrap64 ((pre.length : Int) + 1))) (n + sumL ys (c :: rest)) := by
      intro n' hn'
      rw [hi]
      have := ih (pre ++ [c]) n' (by rw [hp]; simp) (by rw [hn']; simp; omega) (by rw [hn']; simp; omega)
      rw [sumL_cons, ← Int.add_assoc, ← hn']
      exact this
    by_cases a : 97 ≤ c
    · simp only [if_pos a]
      have e1 : Int.tmod (2 * (c - 97)) 2 = 0 := by rw [Int.tmod_eq_emod_of_nonneg (by omega)]; omega
      have e2 : wrap64 (Int.tdiv (2 * (c - 97)) 2) = c - 97 := by rw [Int.tdiv_eq_ediv_of_nonneg (by omega), w64 (by omega) (by omega)]; omega
      simp only [e2, if_pos e1, if_pos (show 0 ≤ c - 97 by omega), if_pos (show c - 97 < (ys.length : Int) by omega)]
      have hval : valL ys c = rd ys (c - 97) := by unfold valL; rw [if_pos a]
      exact hnext _ (by rw [hval] at hv ⊢; exact w64 (by omega) (by omega))
    · simp only [if_neg a]
      have e1 : ¬ Int.tmod (2 * (c - 65) + 1) 2 = 0 := by rw [Int.tmod_eq_emod_of_nonneg (by omega)]; omega
      have e2 : wrap64 (Int.tdiv (2 * (c - 65) + 1) 2) = c - 65 := by rw [Int.tdiv_eq_ediv_of_nonneg (by omega), w64 (by omega) (by omega)]; omega
      simp only [e2, if_neg e1, if_pos (show 0 ≤ c - 65 by omega), if_pos (show c - 65 < (ys.length : Int) by omega)]
      have hval : valL ys c = - rd ys (c - 65) := by unfold valL; rw [if_neg a]
      exact hnext _ (by rw [hval] at hv ⊢; rw [w64 (by omega) (by omega)]; omega)
theorem ref_Sum_ev (ys : List Int) (hy : ImgOk ys) (s : ByteArray) (hs : s.size ≤ 1000000000) (hL : allL (bytesOf s)) : Ev (fun k => cayleyref04_Sum.f k s ys) (sumL ys (bytesOf s)) := by
  unfold cayleyref04_Sum.f
  have := ref_Sum_l0 ys hy s hs hL (bytesOf s) [] 0 rfl (by simp) (by simp)
  rw [Int.zero_add] at this
  exact this
end H
end Go.Proofs.Ytmmichdlgjcmoaa.PAll
