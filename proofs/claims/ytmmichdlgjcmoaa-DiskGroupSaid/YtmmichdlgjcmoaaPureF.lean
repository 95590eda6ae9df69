import Derived.Test.YtmmichdlgjcmoaaPAllx0
import Derived.Test.YtmmichdlgjcmoaaPAllx14
import Derived.Test.YtmmichdlgjcmoaaPureE
namespace Go.Proofs.Ytmmichdlgjcmoaa.PAll
open Go.RowKit Go.Proofs.YtmmichdlgjcmoaaW.PrintWords Go.Proofs.YtmmichdlgjcmoaaW.PrintLast Go.Proofs.YtmmichdlgjcmoaaW.PrintMore H
set_option linter.unusedVariables false
set_option linter.unusedSimpArgs false
namespace H
theorem redL_red (ls : List ByteArray) : redL ls = red (ls.flatMap bytesOf) := by
  suffices h : ∀ (ls : List ByteArray) (out : List Int), ls.foldl (fun out s => (bytesOf s).foldl (pushW canc) out) out = act out (ls.flatMap bytesOf) from h ls []
  intro ls
  induction ls with
  | nil => intro out; rfl
  | cons s ls ih => intro out; rw [List.foldl_cons, ih, List.flatMap_cons, act_append]; rfl
def cellL (rels : List ByteArray) (c : S59) : List Int := bytesOf c.f0 ++ (bytesOf (sideS rels c.f1 c.f2) ++ bytesOf (invS c.f0))
def diskL (rels : List ByteArray) (d : List S59) : List Int := d.flatMap (cellL rels)
theorem boundL_red (rels : List ByteArray) (d : List S59) : boundL rels d = red (diskL rels d) := by
  unfold boundL
  rw [redL_red]
  congr 1
  induction d with
  | nil => rfl
  | cons c d ih => rw [List.flatMap_cons, List.flatMap_append, ih]; simp [diskL, cellW, cellL]
theorem diskL_app (rels : List ByteArray) (d e : List S59) : diskL rels (d ++ e) = diskL rels d ++ diskL rels e := by simp [diskL]
theorem diskL_cons (rels : List ByteArray) (c : S59) (d : List S59) : diskL rels (c :: d) = cellL rels c ++ diskL rels d := by simp [diskL]
def CellL (rels : List ByteArray) (c : S59) : Prop := 0 ≤ c.f1 ∧ c.f1 < rels.length ∧ allL (bytesOf c.f0)
theorem cellL_L {rels : List ByteArray} (hr : relsL rels) {c : S59} (h : CellL rels c) : allL (cellL rels c) :=
  allL_app h.2.2 (allL_app (sideS_L hr c.f2 h.1 h.2.1).2 (by rw [bytesOf_invS h.2.2]; exact allL_inv h.2.2))
theorem diskL_L {rels : List ByteArray} (hr : relsL rels) {d : List S59} (h : ∀ c ∈ d, CellL rels c) : allL (diskL rels d) := by
  intro x hx
  obtain ⟨c, hc, hx⟩ := List.mem_flatMap.1 hx
  exact cellL_L hr (h c hc) x hx
theorem DiskOk.L {rels : List ByteArray} {d : List S59} (h : DiskOk rels d) : ∀ c ∈ d, CellL rels c := fun c hc => ⟨(h.cell c hc).1, (h.cell c hc).2.1, (h.cell c hc).2.2.2⟩
theorem boundL_L {rels : List ByteArray} {d : List S59} (h : DiskOk rels d) : allL (boundL rels d) := by
  rw [boundL_red]; exact (red_redu (diskL_L h.rl h.L)).isL
theorem bytesOf_bound {rels : List ByteArray} {d : List S59} (h : DiskOk rels d) : bytesOf (strOfNums (boundL rels d)) = boundL rels d := bytesOf_strOf (allL_range (boundL_L h))
theorem bound_size {rels : List ByteArray} {d : List S59} (h : DiskOk rels d) : (strOfNums (boundL rels d)).size ≤ 100000000 := by
  have h1 := (boundB_ok.1 (diskOk_bound h)).2
  have h2 : (boundL rels d).length ≤ sizes (d.flatMap (cellW rels)) := redL_len _
  rw [strOfNums_size]; omega
theorem redL_one (s : ByteArray) : redL [s] = red (bytesOf s) := by rw [redL_red]; simp
theorem side_neg {rels : List ByteArray} (hr : relsL rels) {rel : Int} (b : Bool) (h0 : 0 ≤ rel) (h1 : rel < rels.length) : bytesOf (sideS rels rel (!b)) = invL (bytesOf (sideS rels rel b)) := by
  have h := (hr _ (rdOf_mem h0 h1)).2
  unfold sideS
  cases b with
  | false => simp only [Bool.not_false, if_true, Bool.false_eq_true, if_false]; exact bytesOf_invS h
  | true => simp only [Bool.not_true, Bool.false_eq_true, if_false, if_true]; rw [bytesOf_invS h, invL_inv h]
theorem cellL_neg {rels : List ByteArray} (hr : relsL rels) {c : S59} (h : CellL rels c) : cellL rels (negC c) = invL (cellL rels c) := by
  unfold cellL negC
  rw [side_neg hr c.f2 h.1 h.2.1, invL_app, invL_app, bytesOf_invS h.2.2, invL_inv h.2.2, List.append_assoc]
theorem diskL_turn {rels : List ByteArray} (hr : relsL rels) : ∀ (d : List S59), (∀ c ∈ d, CellL rels c) → diskL rels (turnD d) = invL (diskL rels d) := by
  intro d
  induction d with
  | nil => intro _; rfl
  | cons c d ih =>
    intro h
    rw [turnD_snoc, diskL_app, ih (fun x hx => h x (by simp [hx])), diskL_cons (d := d), invL_app]
    congr 1
    rw [diskL_cons, cellL_neg hr (h c (by simp))]
    simp [diskL]
theorem boundL_turn {rels : List ByteArray} {d : List S59} (h : DiskOk rels d) : boundL rels (turnD d) = invL (boundL rels d) := by
  rw [boundL_red, boundL_red, diskL_turn h.rl d h.L, red_inv (diskL_L h.rl h.L)]
theorem isDisk_turn (g : Int) (n : Nat) (d : List S59) (h : isDiskS g n d = true) : isDiskS g n (turnD d) = true := by
  obtain ⟨h1, h2, h3⟩ := isDisk_len h
  have h4 : conjs (turnD d) = conjs d := by
    clear h h1 h2 h3
    induction d with
    | nil => rfl
    | cons c d ih => rw [turnD_snoc, conjs_append, ih, conjs_cons, conjs_cons]; simp only [conjs, List.map_nil, sizes, List.foldl_nil]; show _ + (c.f0.size + 0) = _; omega
  unfold isDiskS
  simp only [Bool.and_eq_true, List.all_eq_true, decide_eq_true_eq]
  refine ⟨⟨by rw [turnD_len]; exact h1, fun c hc => ?_⟩, by rw [h4]; exact h3⟩
  unfold turnD at hc
  rw [List.mem_reverse] at hc
  obtain ⟨x, hx, rfl⟩ := List.mem_map.1 hc
  exact h2 x hx
theorem examine_disk {g : Int} {rels : List ByteArray} {d : List S59} (hp : isPresS g rels = true) (hd : isDiskS g rels.length d = true) : examineS g rels [] [d] = 0 := by
  unfold examineS
  rw [if_pos hp, if_pos (by simp), if_pos (by simp [hd])]
theorem Boundary_disk {g : Int} {rels : List ByteArray} {d : List S59} (hp : isPresS g rels = true) (hd : isDiskS g rels.length d = true) : BoundaryS g rels d = (strOfNums (boundL rels d), 0) := by
  unfold BoundaryS
  rw [if_pos (examine_disk hp hd)]
theorem redL_two (u v : ByteArray) : redL [u, v] = red (bytesOf u ++ bytesOf v) := by rw [redL_red]; simp
theorem cell_shift {rels : List ByteArray} (hr : relsL rels) {u : ByteArray} (hu : allL (bytesOf u)) {c : S59} (h : CellL rels c) : CellL rels (shiftC u c) ∧ Eqv (cellL rels (shiftC u c)) (bytesOf u ++ (cellL rels c ++ invL (bytesOf u))) := by
  have hR : allL (red (bytesOf u ++ bytesOf c.f0)) := (red_redu (allL_app hu h.2.2)).isL
  have hb : bytesOf (strOfNums (redL [u, c.f0])) = red (bytesOf u ++ bytesOf c.f0) := by rw [redL_two]; exact bytesOf_strOf (allL_range hR)
  have hs := (sideS_L hr c.f2 h.1 h.2.1).2
  refine ⟨⟨h.1, h.2.1, by show allL (bytesOf (strOfNums (redL [u, c.f0]))); rw [hb]; exact hR⟩, ?_⟩
  unfold cellL shiftC
  rw [bytesOf_invS (s := strOfNums (redL [u, c.f0])) (by rw [hb]; exact hR), hb, bytesOf_invS h.2.2]
  have e1 := eqv_red (allL_app hu h.2.2)
  have e2 := eqv_inv hR (allL_app hu h.2.2) e1
  rw [invL_app] at e2
  have := e1.app ((Eqv.refl (bytesOf (sideS rels c.f1 c.f2))).app e2 hs) hR
  refine this.trans ?_
  simp only [List.append_assoc]
  exact Eqv.refl _
theorem disk_shift {rels : List ByteArray} (hr : relsL rels) {u : ByteArray} (hu : allL (bytesOf u)) : ∀ (d : List S59), (∀ c ∈ d, CellL rels c) → Eqv (diskL rels (d.map (shiftC u))) (bytesOf u ++ (diskL rels d ++ invL (bytesOf u))) := by
  intro d
  induction d with
  | nil => intro _; exact (eqv_inv_left hu).symm
  | cons c d ih =>
    intro h
    have hc := h c (by simp)
    have h1 := cell_shift hr hu hc
    have h2 := ih (fun x hx => h x (by simp [hx]))
    rw [List.map_cons, diskL_cons, diskL_cons]
    refine (h1.2.app h2 (cellL_L hr h1.1)).trans ?_
    have hcl := cellL_L hr hc
    have h3 : Eqv (invL (bytesOf u) ++ bytesOf u ++ (diskL rels d ++ invL (bytesOf u))) ([] ++ (diskL rels d ++ invL (bytesOf u))) := (eqv_inv_right hu).app (Eqv.refl _) (allL_app (allL_inv hu) hu)
    have h4 := (Eqv.refl (bytesOf u ++ cellL rels c)).app h3 (allL_app hu hcl)
    simp only [List.append_assoc, List.nil_append] at h4 ⊢
    exact h4
theorem bytesOf_redC {rels : List ByteArray} {c : S59} (h : CellL rels c) : bytesOf (redC c).f0 = red (bytesOf c.f0) := by
  show bytesOf (strOfNums (redL [c.f0])) = _
  rw [redL_one]
  exact bytesOf_strOf (allL_range (red_redu h.2.2).isL)
theorem CellL_redC {rels : List ByteArray} {c : S59} (h : CellL rels c) : CellL rels (redC c) := ⟨h.1, h.2.1, by rw [bytesOf_redC h]; exact (red_redu h.2.2).isL⟩
theorem cell_redC {rels : List ByteArray} (hr : relsL rels) {c : S59} (h : CellL rels c) : Eqv (cellL rels (redC c)) (cellL rels c) := by
  have h' := CellL_redC h
  unfold cellL
  rw [bytesOf_invS h'.2.2, bytesOf_invS h.2.2, bytesOf_redC h]
  have e1 := eqv_red h.2.2
  exact e1.app ((Eqv.refl _).app (eqv_inv (red_redu h.2.2).isL h.2.2 e1) (sideS_L hr c.f2 h.1 h.2.1).2) (red_redu h.2.2).isL
theorem toList_inj {a b : ByteArray} (h : a.toList = b.toList) : a = b := by
  rw [ByteArray.toList_eq, ByteArray.toList_eq] at h
  exact ByteArray.ext (Array.ext' h)
theorem cancC_neg {a b : S59} (h : cancC a b = true) : a = negC b := by
  unfold cancC at h
  simp only [Bool.and_eq_true, beq_iff_eq] at h
  obtain ⟨h1, h2, h3⟩ := h
  obtain ⟨x, y, z⟩ := a
  obtain ⟨x', y', z'⟩ := b
  simp only at h1 h2 h3
  unfold negC
  simp only [S59.mk.injEq]
  refine ⟨?_, h2, h3⟩
  exact toList_inj h1
theorem push_cell {rels : List ByteArray} (hr : relsL rels) {xs : List S59} (hx : ∀ c ∈ xs, CellL rels c) {c : S59} (hc : CellL rels c) : (∀ y ∈ pushW cancC xs (redC c), CellL rels y) ∧ Eqv (diskL rels (pushW cancC xs (redC c))) (diskL rels xs ++ cellL rels c) := by
  have hadd : (∀ y ∈ xs ++ [redC c], CellL rels y) ∧ Eqv (diskL rels (xs ++ [redC c])) (diskL rels xs ++ cellL rels c) := by
    refine ⟨fun y hy => ?_, ?_⟩
    · rcases List.mem_append.1 hy with hy | hy
      · exact hx y hy
      · simp at hy; rw [hy]; exact CellL_redC hc
    · rw [diskL_app]
      refine (Eqv.refl _).app ?_ (diskL_L hr hx)
      rw [diskL_cons]
      simp only [diskL, List.flatMap_nil, List.append_nil]
      exact cell_redC hr hc
  rcases snoc_split xs with rfl | ⟨p, y, rfl⟩
  · exact hadd
  · unfold pushW
    rw [List.getLast?_concat]
    simp only [List.dropLast_concat]
    split
    · rename_i hcan
      refine ⟨fun z hz => hx z (by simp [hz]), ?_⟩
      have hp : allL (diskL rels p) := diskL_L hr (fun z hz => hx z (by simp [hz]))
      have hy := cancC_neg hcan
      subst hy
      rw [diskL_app, diskL_cons, cellL_neg hr (CellL_redC hc)]
      simp only [diskL, List.flatMap_nil, List.append_nil, List.append_assoc]
      have h1 : Eqv (invL (cellL rels (redC c)) ++ cellL rels c) (invL (cellL rels (redC c)) ++ cellL rels (redC c)) := (Eqv.refl _).app (cell_redC hr hc).symm (allL_inv (cellL_L hr (CellL_redC hc)))
      have h2 := h1.trans (eqv_inv_right (cellL_L hr (CellL_redC hc)))
      have h3 := (Eqv.refl (diskL rels p)).app h2 hp
      rw [List.append_nil] at h3
      exact h3.symm
    · exact hadd
theorem disk_simp {rels : List ByteArray} (hr : relsL rels) (d : List S59) (hd : ∀ c ∈ d, CellL rels c) : (∀ y ∈ simpL d, CellL rels y) ∧ Eqv (diskL rels (simpL d)) (diskL rels d) := by
  suffices h : ∀ (n : Nat) (d : List S59), d.length = n → (∀ c ∈ d, CellL rels c) → (∀ y ∈ simpL d, CellL rels y) ∧ Eqv (diskL rels (simpL d)) (diskL rels d) from h _ d rfl hd
  intro n
  induction n with
  | zero => intro d hn _; rw [List.length_eq_zero_iff.1 hn]; exact ⟨fun y hy => (by cases hy), Eqv.refl _⟩
  | succ n ih =>
    intro d hn h
    rcases snoc_split d with rfl | ⟨p, c, rfl⟩
    · simp at hn
    · have h1 := ih p (by simpa using hn) (fun x hx => h x (by simp [hx]))
      rw [simpL_snoc]
      have h2 := push_cell hr h1.1 (h c (by simp))
      refine ⟨h2.1, h2.2.trans ?_⟩
      rw [diskL_app, diskL_cons]
      simp only [diskL, List.flatMap_nil, List.append_nil]
      exact h1.2.app (Eqv.refl _) (diskL_L hr h1.1)
theorem memDrop {α : Type} {l : List α} {x : α} (h : x ∈ l.dropLast) : x ∈ l := List.dropLast_subset l h
theorem act_mem {xs : List Int} : ∀ {o : List Int} {x : Int}, x ∈ act o xs → x ∈ o ∨ x ∈ xs := by
  induction xs with
  | nil => intro o x h; exact .inl h
  | cons y xs ih =>
    intro o x h
    rcases ih h with h | h
    · unfold pushW at h
      split at h
      · split at h
        · exact .inl (memDrop h)
        · rcases List.mem_append.1 h with h | h
          · exact .inl h
          · simp at h; exact .inr (by simp [h])
      · rcases List.mem_append.1 h with h | h
        · exact .inl h
        · simp at h; exact .inr (by simp [h])
    · exact .inr (by simp [h])
theorem cellOk_redC {g : Int} {n : Nat} {c : S59} (h : cellOk g n c = true) : cellOk g n (redC c) = true ∧ (redC c).f0.size ≤ c.f0.size := by
  obtain ⟨h0, h1, h2, h3, h4⟩ := cellOk_of h
  have hl : (redL [c.f0]).length ≤ c.f0.size := by
    have := redL_len [c.f0]
    rw [sizes_cons] at this
    simp only [sizes, List.foldl_nil] at this
    omega
  have hb : bytesOf (redC c).f0 = red (bytesOf c.f0) := by
    show bytesOf (strOfNums (redL [c.f0])) = _
    rw [redL_one]
    exact bytesOf_strOf (allL_range (red_redu h3).isL)
  refine ⟨?_, by show (strOfNums (redL [c.f0])).size ≤ _; rw [strOfNums_size]; exact hl⟩
  unfold cellOk
  simp only [Bool.and_eq_true, decide_eq_true_eq]
  refine ⟨⟨h0, h1⟩, ?_⟩
  rw [hb]
  unfold isWordL at h4 ⊢
  simp only [Bool.and_eq_true, decide_eq_true_eq, List.all_eq_true] at h4 ⊢
  refine ⟨by rw [← redL_one]; omega, fun x hx => ?_⟩
  rcases act_mem hx with hx | hx
  · cases hx
  · exact h4.2 x hx
theorem push_sub {xs : List S59} {c z : S59} (h : z ∈ pushW cancC xs c) : z ∈ xs ∨ z = c := by
  unfold pushW at h
  split at h
  · split at h
    · exact .inl (memDrop h)
    · simpa using h
  · simpa using h
theorem conjs_push (xs : List S59) (c : S59) : conjs (pushW cancC xs c) ≤ conjs xs + c.f0.size := by
  have h1 : conjs (xs ++ [c]) = conjs xs + c.f0.size := by rw [conjs_append, conjs_cons]; simp only [conjs, List.map_nil, sizes, List.foldl_nil]; omega
  rcases snoc_split xs with rfl | ⟨p, y, rfl⟩
  · rw [show pushW cancC [] c = [] ++ [c] from rfl, h1]; exact Nat.le_refl _
  · unfold pushW
    rw [List.getLast?_concat]
    simp only [List.dropLast_concat]
    split
    · rw [conjs_append]; omega
    · rw [h1]; exact Nat.le_refl _
theorem isDisk_simp {g : Int} {n : Nat} {d : List S59} (h : isDiskS g n d = true) : isDiskS g n (simpL d) = true := by
  obtain ⟨h1, h2, h3⟩ := isDisk_len h
  have hs : ∀ (n' : Nat) (d : List S59), d.length = n' → (∀ c ∈ d, cellOk g n c = true) → (∀ c ∈ simpL d, cellOk g n c = true) ∧ conjs (simpL d) ≤ conjs d := by
    intro n'
    induction n' with
    | zero => intro d hn _; rw [List.length_eq_zero_iff.1 hn]; exact ⟨fun c hc => (by cases hc), Nat.le_refl _⟩
    | succ n' ih =>
      intro d hn h
      rcases snoc_split d with rfl | ⟨p, c, rfl⟩
      · simp at hn
      · obtain ⟨k1, k2⟩ := ih p (by simpa using hn) (fun x hx => h x (by simp [hx]))
        obtain ⟨k3, k4⟩ := cellOk_redC (h c (by simp))
        rw [simpL_snoc]
        refine ⟨fun z hz => ?_, ?_⟩
        · rcases push_sub hz with hz | rfl
          · exact k1 z hz
          · exact k3
        · have := conjs_push (simpL p) (redC c)
          rw [conjs_append, conjs_cons]
          omega
  obtain ⟨k1, k2⟩ := hs d.length d rfl h2
  have := simpL_len d
  unfold isDiskS
  simp only [Bool.and_eq_true, List.all_eq_true, decide_eq_true_eq]
  exact ⟨⟨by omega, k1⟩, by omega⟩
end H
end Go.Proofs.Ytmmichdlgjcmoaa.PAll
