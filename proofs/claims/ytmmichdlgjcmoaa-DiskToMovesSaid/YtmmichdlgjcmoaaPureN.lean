import Derived.Test.YtmmichdlgjcmoaaPAllx0
import Derived.Test.YtmmichdlgjcmoaaPAllx20
import Derived.Test.YtmmichdlgjcmoaaPureM
namespace Go.Proofs.Ytmmichdlgjcmoaa.PAll
open Go.RowKit Go.Proofs.YtmmichdlgjcmoaaW.PrintWords Go.Proofs.YtmmichdlgjcmoaaW.PrintLast Go.Proofs.YtmmichdlgjcmoaaW.PrintMore H
set_option linter.unusedVariables false
set_option linter.unusedSimpArgs false
namespace H
def RefusedS (g : Int) (rels : List ByteArray) (d : List S59) (s : ByteArray) : Int := if ProvesS g rels d s = 0 then if s.size + sumC rels d ≤ 20000 then 0 else 2 else ProvesS g rels d s
theorem ref_Refused_l0 (g : Int) (rels : List ByteArray) (hr : relsL rels) (d : List S59) (hd : d.length ≤ 100000) (hc : ∀ c ∈ d, 0 ≤ c.f1 ∧ c.f1 < rels.length ∧ c.f0.size ≤ 100000) : ∀ (rest pre : List S59) (n : Nat), d = pre ++ rest → n ≤ 100000 + 100400 * pre.length →
    Ev (fun k => cayleyref04_Refused.l0 k (n : Int) d (d.length : Int) (pre.length : Int) g rels) (if n + sumC rels rest ≤ 20000 then 0 else 2) := by
  intro rest
  induction rest with
  | nil =>
    intro pre n hp hn
    refine Ev.step (f := fun _ => some (if n + sumC rels [] ≤ 20000 then 0 else 2)) (fun k => ?_) (Ev.now _)
    simp only [cayleyref04_Refused.l0]
    rw [if_neg (by rw [hp]; simp)]
    show _ = some (if n + 0 ≤ 20000 then (0 : Int) else 2)
    by_cases h : n ≤ 20000
    · rw [if_neg (by omega), if_pos (by omega)]
    · rw [if_pos (by omega), if_neg (by omega)]
  | cons c rest ih =>
    intro pre n hp hn
    have hlen : pre.length < d.length := by rw [hp]; simp
    obtain ⟨h0, h1, h2⟩ := hc c (by rw [hp]; simp)
    have h3 := (hr _ (rdOf_mem h0 h1)).1
    have hi : wrap64 ((pre.length : Int) + 1) = ((pre ++ [c]).length : Int) := by rw [w64 (by omega) (by omega)]; simp
    have hrd : rd_T59 d (pre.length : Int) = c := by rw [hp]; exact rd59_at pre c rest
    have hs : wrap64 ((n : Int) + wrap64 ((c.f0.size : Int) + wrap64 (2 * ((rdOf ByteArray.empty rels c.f1).size : Int)))) = ((n + (c.f0.size + 2 * (rdOf ByteArray.empty rels c.f1).size) : Nat) : Int) := by
      rw [w64 (x := 2 * _) (by omega) (by omega), w64 (x := (c.f0.size : Int) + _) (by omega) (by omega), w64 (by omega) (by omega)]
      push_cast
      omega
    refine Ev.step (f := fun k => _) (fun k => by
      simp only [cayleyref04_Refused.l0]
      rw [if_pos (by omega), if_pos (by omega), if_pos (by omega), hrd, if_pos h0, if_pos h1, hi, hs]) ?_
    have := ih (pre ++ [c]) (n + (c.f0.size + 2 * (rdOf ByteArray.empty rels c.f1).size)) (by rw [hp]; simp) (by simp; omega)
    rw [sumC_cons, show n + (c.f0.size + 2 * (rdOf ByteArray.empty rels c.f1).size + sumC rels rest) = n + (c.f0.size + 2 * (rdOf ByteArray.empty rels c.f1).size) + sumC rels rest by omega]
    exact this
theorem ref_Refused_ev (g : Int) (rels : List ByteArray) (d : List S59) (s : ByteArray) (hc : Came d) (hs0 : s.size ≤ 9223372036854775807) : Ev (fun k => cayleyref04_Refused.f k g rels d s) (RefusedS g rels d s) := by
  unfold cayleyref04_Refused.f RefusedS
  refine Ev.bind (ref_Proves_ev g rels d s hc hs0) ?_
  by_cases h : ProvesS g rels d s = 0
  · simp only [if_pos h]
    obtain ⟨hp, hw, hd⟩ := proves_zero h
    have hl := isDisk_len hd
    exact ref_Refused_l0 g rels (relsL_of hp) d hl.1 (fun c hc' => by have := cellOk_of (hl.2.1 c hc'); exact ⟨this.1, this.2.1, this.2.2.1⟩) d [] s.size rfl (by have := isWordL_len hw; simp; omega)
  · simp only [if_neg h]
    exact Ev.now _
theorem proves_eqv {g : Int} {rels : List ByteArray} {d : List S59} {s : ByteArray} (h : ProvesS g rels d s = 0) : Eqv (diskL rels d) (bytesOf s) := by
  obtain ⟨hp, hw, hd⟩ := proves_zero h
  have hok := diskOk_of hp hd
  have hr := relsL_of hp
  have hdl := diskL_L hr hok.L
  have hL := allL_of hw
  unfold ProvesS at h
  rw [if_pos (by
    unfold examineS
    split at h
    · rename_i he; exact he
    · rename_i he; exact absurd h he)] at h
  have he : (strOfNums (boundL rels d)).toList = (strOfNums (redL [s])).toList := by
    by_cases hq : (strOfNums (boundL rels d)).toList = (strOfNums (redL [s])).toList
    · exact hq
    · rw [if_neg hq] at h; exact absurd h (by decide)
  have e1 := congrArg bytesOf (toList_inj he)
  rw [bytesOf_bound hok, redL_one, bytesOf_strOf (allL_range (red_redu hL).isL), boundL_red] at e1
  have := (eqv_red hdl).symm
  rw [e1] at this
  exact this.trans (eqv_red hL)
theorem sizes_one {g : Int} {rels : List ByteArray} (h : isPresS g rels = true) : ∀ r ∈ rels, 1 ≤ r.size := by
  intro r hr
  unfold isPresS at h
  simp only [Bool.and_eq_true, List.all_eq_true] at h
  have := h.2 r hr
  unfold relOk at this
  simp only [Bool.and_eq_true, decide_eq_true_eq] at this
  exact this.1.1.1
theorem sumC_ge {rels : List ByteArray} (hr1 : ∀ r ∈ rels, 1 ≤ r.size) : ∀ (d : List S59), (∀ c ∈ d, 0 ≤ c.f1 ∧ c.f1 < rels.length) → 2 * d.length ≤ sumC rels d := by
  intro d
  induction d with
  | nil => intro _; exact Nat.zero_le _
  | cons c d ih =>
    intro h
    have h1 := ih (fun x hx => h x (List.mem_cons_of_mem _ hx))
    have h2 := hr1 _ (rdOf_mem (h c (List.mem_cons_self ..)).1 (h c (List.mem_cons_self ..)).2)
    rw [sumC_cons, List.length_cons]
    omega
theorem toMoves_goes {g : Int} {rels : List ByteArray} {d : List S59} {s : ByteArray} (h : ProvesS g rels d s = 0) (hb : s.size + sumC rels d ≤ 20000) :
    Goes g rels s (toMovesL rels d s) ⟨#[]⟩ ∧ (toMovesL rels d s).length ≤ 100000 ∧ relC (toMovesL rels d s) = d.length := by
  obtain ⟨hp, hw, hd⟩ := proves_zero h
  have hok := diskOk_of hp hd
  have hr := relsL_of hp
  have hg := isPresS_g hp
  have hl := isDisk_len hd
  have hL := allL_of hw
  have hr1 := sizes_one hp
  have hcell : ∀ c ∈ d, 0 ≤ c.f1 ∧ c.f1 < rels.length ∧ isWordL g (bytesOf c.f0) = true := fun c hc => by
    have := cellOk_of (hl.2.1 c hc); exact ⟨this.1, this.2.1, this.2.2.2.2⟩
  have h1 := ins_all (rels := rels) hg hr hr1 d s hcell (by omega)
  have hz := wordC_size rels d s
  obtain ⟨u, hu, h2⟩ := del_all (g := g) (rels := rels) (bytesOf (wordC rels s d)) [] (wordC rels s d) rfl (by omega)
  have e0 : toMovesL rels d s = d.flatMap insCell ++ ((bytesOf (wordC rels s d)).foldl delStep ([], [])).2 := by
    unfold toMovesL
    exact (del_out _ _ _).1
  have hnil : u = ⟨#[]⟩ := by
    apply bytesOf_inj
    rw [hu, bytesOf_nil]
    show red (bytesOf (wordC rels s d)) = _
    rw [wordC_bytes hr d s hok.L, diskL_turn hr d hok.L]
    have hdl := diskL_L hr hok.L
    have e1 : Eqv (invL (diskL rels d) ++ bytesOf s) [] := by
      have := Eqv.app (eqv_inv hdl hL (proves_eqv h)) (Eqv.refl (bytesOf s)) (allL_inv hdl)
      exact this.trans (eqv_inv_right hL)
    rw [e1.red]
    rfl
  rw [hnil] at h2
  rw [e0]
  have hc := del_count (bytesOf (wordC rels s d)) []
  have hf := flat_len rels d
  have hsg := sumC_ge hr1 d (fun c hc => ⟨(hcell c hc).1, (hcell c hc).2.1⟩)
  rw [bytesOf_length] at hc
  refine ⟨Goes.app h1 h2, ?_, ?_⟩
  · rw [List.length_append]
    have := hc.1
    omega
  · rw [relC_app, relC_flat, hc.2]; omega
theorem ToMoves_apply {g : Int} {rels : List ByteArray} {d : List S59} {s : ByteArray} (h : ProvesS g rels d s = 0) (hb : s.size + sumC rels d ≤ 20000) : ApplyS g rels s (toMovesL rels d s) = (⟨#[]⟩, 0) := by
  obtain ⟨hG, hn, _⟩ := toMoves_goes h hb
  obtain ⟨cs, hw⟩ := hG []
  obtain ⟨hp, hwd, hd⟩ := proves_zero h
  have he : examineS g rels [s] [] = 0 := by
    unfold examineS
    simp [hp, hwd]
  unfold ApplyS movesS
  rw [if_pos he, if_pos hn, hw]
theorem DiskToMoves_ev (g : Int) (rels : List ByteArray) (d : List S59) (s : ByteArray) (hc : Came d) (hs0 : s.size ≤ 9223372036854775807) : Ev (fun k => cayleylaw04_DiskToMoves.f k g rels d s) true := by
  unfold cayleylaw04_DiskToMoves.f
  simp only [disk_ToMoves.f, Option.bind_some]
  refine Ev.bind (ref_Refused_ev g rels d s hc hs0) ?_
  unfold RefusedS ToMovesS
  by_cases h : ProvesS g rels d s = 0
  · simp only [if_pos h]
    by_cases hb : s.size + sumC rels d ≤ 20000
    · simp only [if_pos hb, if_true]
      obtain ⟨hG, hn, hrc⟩ := toMoves_goes h hb
      refine Ev.step (f := fun k => _) (fun k => by rw [cayleylaw04_DiskToMoves.j0, if_neg (by decide)]) ?_
      simp only [disk_Apply.f, Option.bind_some, ToMoves_apply h hb]
      refine Ev.bind sane_ev ?_
      simp only [if_true]
      simp only [if_pos (show (⟨#[]⟩ : ByteArray).toList = [] by simp)]
      refine Ev.bind (ref_Relators_ev _ hn) ?_
      refine Ev.congr (fun k => ?_) (Ev.now true)
      rw [hrc]
      simp
    · simp only [if_neg hb]
      simp only [if_neg (show ¬ (2 : Int) = 0 by decide)]
      refine Ev.step (f := fun k => _) (fun k => by rw [cayleylaw04_DiskToMoves.j0, if_pos rfl]) ?_
      refine Ev.bind sane_ev ?_
      simp only [if_true]
      exact Ev.now _
  · simp only [if_neg h]
    refine Ev.step (f := fun k => _) (fun k => by rw [cayleylaw04_DiskToMoves.j0, if_pos rfl]) ?_
    refine Ev.bind sane_ev ?_
    simp only [if_true]
    exact Ev.now _
end H
end Go.Proofs.Ytmmichdlgjcmoaa.PAll
