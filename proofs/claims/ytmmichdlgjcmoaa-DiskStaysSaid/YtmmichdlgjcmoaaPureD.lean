import Derived.Test.YtmmichdlgjcmoaaPAllx0
import Derived.OpenShut
import Derived.Test.YtmmichdlgjcmoaaPAllx9
import Derived.Test.YtmmichdlgjcmoaaPAllx12
import Derived.Test.YtmmichdlgjcmoaaPAllx13
import Derived.Test.YtmmichdlgjcmoaaPureC
import Derived.Test.YtmmichdlgjcmoaaExtF
namespace Go.Proofs.Ytmmichdlgjcmoaa.PAll
open Go.RowKit Go.Proofs.YtmmichdlgjcmoaaW.PrintWords Go.Proofs.YtmmichdlgjcmoaaW.PrintLast Go.Proofs.YtmmichdlgjcmoaaW.PrintMore H
set_option linter.unusedVariables false
set_option linter.unusedSimpArgs false
namespace H
theorem conjs_append (d e : List S59) : conjs (d ++ e) = conjs d + conjs e := by simp [conjs, sizes_append]
theorem isDisk_len {g : Int} {n : Nat} {d : List S59} (h : isDiskS g n d = true) : d.length ≤ 100000 ∧ (∀ c ∈ d, cellOk g n c = true) ∧ conjs d ≤ 1000000 := by
  unfold isDiskS at h
  simp only [Bool.and_eq_true, List.all_eq_true, decide_eq_true_eq] at h
  exact ⟨h.1.1, h.1.2, h.2⟩
theorem cellOk_of {g : Int} {n : Nat} {c : S59} (h : cellOk g n c = true) : 0 ≤ c.f1 ∧ c.f1 < n ∧ c.f0.size ≤ 100000 ∧ allL (bytesOf c.f0) ∧ isWordL g (bytesOf c.f0) = true := by
  unfold cellOk at h
  simp only [Bool.and_eq_true, decide_eq_true_eq] at h
  exact ⟨h.1.1, h.1.2, isWordL_len h.2, allL_of h.2, h.2⟩
def ProductS (g : Int) (rels : List ByteArray) (d e : List S59) : List S59 × Int := if examineS g rels [] [d, e] = 0 then if isDiskS g rels.length (d ++ e) = true then (d ++ e, 0) else ([], 2) else ([], examineS g rels [] [d, e])
theorem disk_Product_ev (g : Int) (rels : List ByteArray) (d e : List S59) : Ev (fun k => disk_Product.f k g rels d e) (ProductS g rels d e) := by
  unfold disk_Product.f ProductS
  refine Ev.bind (disk_examine_ev g rels [] [d, e] (by simp) (by simp)) ?_
  by_cases h : examineS g rels [] [d, e] = 0
  · simp only [if_pos h]
    obtain ⟨hp, _, hd⟩ := examine_zero h
    have h1 := (isDisk_len (hd d (by simp))).1
    have h2 := (isDisk_len (hd e (by simp))).1
    have q1 : 0 + d.length < 4398046511104 := by omega
    have q2 : d.length + e.length < 4398046511104 := by omega
    simp only [Option.bind_some, List.nil_append, List.length_nil, if_pos q1, if_pos q2]
    refine Ev.bind (disk_isDisk_ev g rels (isPresS_g hp) _) ?_
    by_cases e1 : isDiskS g rels.length (d ++ e) = true
    · simp only [if_pos e1]; exact Ev.now _
    · simp only [if_neg e1]; exact Ev.now _
  · simp only [if_neg h]; exact Ev.now _
def negC (c : S59) : S59 := ⟨c.f0, c.f1, !c.f2⟩
def turnD (d : List S59) : List S59 := (d.map negC).reverse
def InverseS (g : Int) (rels : List ByteArray) (d : List S59) : List S59 × Int := if examineS g rels [] [d] = 0 then (turnD d, 0) else ([], examineS g rels [] [d])
theorem turnD_snoc (c : S59) (post : List S59) : turnD (c :: post) = turnD post ++ [negC c] := by simp [turnD]
theorem turnD_len (d : List S59) : (turnD d).length = d.length := by simp [turnD]
theorem snoc_split {α : Type} (pre : List α) : pre = [] ∨ ∃ p c, pre = p ++ [c] := by
  rcases List.eq_nil_or_concat pre with h | ⟨p, c, h⟩
  · exact .inl h
  · exact .inr ⟨p, c, by simpa using h⟩
theorem disk_Inverse_l0 (d : List S59) (hd : d.length ≤ 1000000000) : ∀ (n : Nat) (pre post : List S59), pre.length = n → d = pre ++ post →
    Ev (fun k => disk_Inverse.l0 k d (turnD post) ((pre.length : Int) - 1)) (turnD d, 0) := by
  intro n
  induction n with
  | zero =>
    intro pre post hn hp
    obtain rfl := List.length_eq_zero_iff.1 hn
    refine Ev.step (f := fun _ => some (turnD d, 0)) (fun k => ?_) (Ev.now _)
    simp only [disk_Inverse.l0]
    rw [if_neg (by simp), hp]; simp
  | succ n ih =>
    intro pre post hn hp
    rcases snoc_split pre with rfl | ⟨p, c, rfl⟩
    · simp at hn
    · have hl : d.length = p.length + 1 + post.length := by rw [hp]; simp; omega
      have hrd : rd_T59 d (p.length : Int) = c := by rw [hp, List.append_assoc]; exact rd59_at p c post
      have hx : (((p ++ [c]).length : Nat) : Int) - 1 = (p.length : Int) := by simp
      rw [hx]
      have hi : wrap64 ((p.length : Int) - 1) = (p.length : Int) - 1 := w64 (by omega) (by omega)
      refine Ev.step (f := fun k => _) (fun k => by simp only [disk_Inverse.l0]; rw [if_pos (by omega), if_pos (by omega), if_pos (by omega), if_pos (by rw [turnD_len]; omega), hrd, hi]) ?_
      have e : turnD post ++ [(⟨c.f0, c.f1, !c.f2⟩ : S59)] = turnD (c :: post) := (turnD_snoc c post).symm
      rw [e]
      exact ih p (c :: post) (by simpa using hn) (by rw [hp]; simp)
theorem disk_Inverse_ev (g : Int) (rels : List ByteArray) (d : List S59) : Ev (fun k => disk_Inverse.f k g rels d) (InverseS g rels d) := by
  unfold disk_Inverse.f InverseS
  refine Ev.bind (disk_examine_ev g rels [] [d] (by simp) (by simp)) ?_
  by_cases h : examineS g rels [] [d] = 0
  · simp only [if_pos h]
    obtain ⟨hp, _, hd⟩ := examine_zero h
    have h1 := (isDisk_len (hd d (by simp))).1
    rw [w64 (by omega) (by omega)]
    exact disk_Inverse_l0 d (by omega) d.length d [] rfl (by simp)
  · simp only [if_neg h]; exact Ev.now _
def shiftC (u : ByteArray) (c : S59) : S59 := ⟨strOfNums (redL [u, c.f0]), c.f1, c.f2⟩
def longC (u : ByteArray) (d : List S59) : Bool := d.any (fun c => decide (100000 < u.size + c.f0.size))
def ConjugateS (g : Int) (rels : List ByteArray) (d : List S59) (u : ByteArray) : List S59 × Int :=
  if examineS g rels [u] [d] = 0 then if longC u d = true then ([], 2) else if isDiskS g rels.length (d.map (shiftC u)) = true then (d.map (shiftC u), 0) else ([], 2) else ([], examineS g rels [u] [d])
theorem disk_Conjugate_l0 (g : Int) (rels : List ByteArray) (hg : 1 ≤ g ∧ g ≤ 8) (u : ByteArray) (hu : u.size ≤ 100000) (d : List S59) (hd : d.length ≤ 1000000000) (hc : ∀ c ∈ d, c.f0.size ≤ 100000) : ∀ (rest pre : List S59), d = pre ++ rest →
    Ev (fun k => disk_Conjugate.l0 k u (pre.map (shiftC u)) d (d.length : Int) (pre.length : Int) g rels) (if longC u rest = true then ([], 2) else if isDiskS g rels.length (d.map (shiftC u)) = true then (d.map (shiftC u), 0) else ([], 2)) := by
  intro rest
  induction rest with
  | nil =>
    intro pre hp
    refine Ev.step (f := fun k => _) (fun k => by simp only [disk_Conjugate.l0]; rw [if_neg (by rw [hp]; simp)]) ?_
    rw [show pre = d from by rw [hp]; simp]
    refine Ev.bind (disk_isDisk_ev g rels hg _) ?_
    simp only [longC, List.any_nil, Bool.false_eq_true, if_false]
    by_cases e1 : isDiskS g rels.length (d.map (shiftC u)) = true
    · simp only [if_pos e1]; exact Ev.now _
    · simp only [if_neg e1]; exact Ev.now _
  | cons c rest ih =>
    intro pre hp
    have hlen : pre.length < d.length := by rw [hp]; simp
    have hrd : rd_T59 d (pre.length : Int) = c := by rw [hp]; exact rd59_at pre c rest
    have h0 := hc c (by rw [hp]; simp)
    by_cases hL : 100000 < u.size + c.f0.size
    · rw [if_pos (show longC u (c :: rest) = true by simp [longC, hL])]
      refine Ev.step (f := fun _ => some ([], 2)) (fun k => ?_) (Ev.now _)
      simp only [disk_Conjugate.l0]
      rw [if_pos (by omega), if_pos (by omega), if_pos (by omega), hrd, w64 (by omega) (by omega), if_pos (by omega)]
    · rw [show longC u (c :: rest) = longC u rest by simp [longC, hL]]
      have hi : wrap64 ((pre.length : Int) + 1) = ((pre ++ [c]).length : Int) := by rw [w64 (by omega) (by omega)]; simp
      have hr : disk_reduced.f [u, c.f0] = some (strOfNums (redL [u, c.f0])) := by
        rw [disk_reduced.f, if_pos (by rw [sizes_cons, sizes_cons]; simp only [sizes, List.foldl_nil]; omega)]
      refine Ev.step (f := fun k => _) (fun k => by
        simp only [disk_Conjugate.l0]
        rw [if_pos (by omega), if_pos (by omega), if_pos (by omega), hrd, w64 (by omega) (by omega), if_neg (by omega), hr]) ?_
      have e : pre.map (shiftC u) ++ [(⟨strOfNums (redL [u, c.f0]), c.f1, c.f2⟩ : S59)] = (pre ++ [c]).map (shiftC u) := by simp [shiftC]
      refine Ev.congr (f := fun k => disk_Conjugate.l0 k u ((pre ++ [c]).map (shiftC u)) d (d.length : Int) ((pre ++ [c]).length : Int) g rels) (fun k => by simp only [Option.bind_some]; rw [if_pos (by rw [List.length_map]; omega), hi, e]) ?_
      exact ih (pre ++ [c]) (by rw [hp]; simp)
theorem disk_Conjugate_ev (g : Int) (rels : List ByteArray) (d : List S59) (u : ByteArray) : Ev (fun k => disk_Conjugate.f k g rels d u) (ConjugateS g rels d u) := by
  unfold disk_Conjugate.f ConjugateS
  refine Ev.bind (disk_examine_ev g rels [u] [d] (by simp) (by simp)) ?_
  by_cases h : examineS g rels [u] [d] = 0
  · simp only [if_pos h]
    obtain ⟨hp, hw, hd⟩ := examine_zero h
    obtain ⟨h1, h2, _⟩ := isDisk_len (hd d (by simp))
    exact disk_Conjugate_l0 g rels (isPresS_g hp) u (isWordL_len (hw u (by simp))) d (by omega) (fun c hc => (cellOk_of (h2 c hc)).2.2.1) d [] rfl
  · simp only [if_neg h]; exact Ev.now _
def SimplifyS (g : Int) (rels : List ByteArray) (d : List S59) : List S59 × Int := if examineS g rels [] [d] = 0 then (simpL d, 0) else ([], examineS g rels [] [d])
theorem disk_Simplify_eq (g : Int) (rels : List ByteArray) (d : List S59) : disk_Simplify.f g rels d = some (SimplifyS g rels d) := by
  unfold disk_Simplify.f SimplifyS
  split <;> rfl
theorem ref_Same_l0 (d : List S59) (hd : d.length ≤ 9223372036854775807) : ∀ (rest pre : List S59), d = pre ++ rest → Ev (fun k => cayleyref04_Same.l0 k d d (d.length : Int) (pre.length : Int)) true := by
  intro rest
  induction rest with
  | nil =>
    intro pre hp
    refine Ev.step (f := fun _ => some true) (fun k => ?_) (Ev.now _)
    simp only [cayleyref04_Same.l0]
    rw [if_neg (by rw [hp]; simp)]
  | cons c rest ih =>
    intro pre hp
    have hlen : pre.length < d.length := by rw [hp]; simp
    have hi : wrap64 ((pre.length : Int) + 1) = ((pre ++ [c]).length : Int) := by rw [w64 (by omega) (by omega)]; simp
    refine Ev.step (f := fun k => _) (fun k => by
      simp only [cayleyref04_Same.l0]
      rw [if_pos (by omega), if_pos (by omega), if_pos (by omega), if_pos (by omega), if_neg (by simp), hi]) ?_
    exact ih (pre ++ [c]) (by rw [hp]; simp)
theorem ref_Same_ev (d : List S59) (hd : d.length ≤ 9223372036854775807) : Ev (fun k => cayleyref04_Same.f k d d) true := by
  unfold cayleyref04_Same.f
  simp only [if_true]
  exact ref_Same_l0 d hd d [] rfl
end H
end Go.Proofs.Ytmmichdlgjcmoaa.PAll
