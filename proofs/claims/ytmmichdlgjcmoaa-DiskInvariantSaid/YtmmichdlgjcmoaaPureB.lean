import Derived.Test.YtmmichdlgjcmoaaPAllx0
import Derived.Test.YtmmichdlgjcmoaaPAllx3
import Derived.OpenShut
import Derived.Test.YtmmichdlgjcmoaaExtB
namespace Go.Proofs.Ytmmichdlgjcmoaa.PAll
open Go.RowKit Go.Proofs.YtmmichdlgjcmoaaW.PrintWords Go.Proofs.YtmmichdlgjcmoaaW.PrintLast Go.Proofs.YtmmichdlgjcmoaaW.PrintMore H
set_option linter.unusedVariables false
set_option linter.unusedSimpArgs false
namespace H
def isL (c : Int) : Prop := (97 ≤ c ∧ c < 105) ∨ (65 ≤ c ∧ c < 73)
theorem isL_of {g c : Int} (h : letterOk g c = true) : isL c := by
  unfold letterOk index at h
  unfold isL
  by_cases h1 : 97 ≤ c ∧ c < 105
  · exact .inl h1
  · by_cases h2 : 65 ≤ c ∧ c < 73
    · exact .inr h2
    · simp [h1, h2] at h
theorem isL_cases {c : Int} (h : isL c) : c = 97 ∨ c = 98 ∨ c = 99 ∨ c = 100 ∨ c = 101 ∨ c = 102 ∨ c = 103 ∨ c = 104 ∨ c = 65 ∨ c = 66 ∨ c = 67 ∨ c = 68 ∨ c = 69 ∨ c = 70 ∨ c = 71 ∨ c = 72 := by unfold isL at h; omega
theorem otherB_isL {c : Int} (h : isL c) : otherB c = if 97 ≤ c then c - 32 else c + 32 := by
  rcases isL_cases h with h | h | h | h | h | h | h | h | h | h | h | h | h | h | h | h <;> (subst h; rfl)
theorem isL_other {c : Int} (h : isL c) : isL (otherB c) := by
  rw [otherB_isL h]; unfold isL at *; split <;> omega
theorem other_other {c : Int} (h : isL c) : otherB (otherB c) = c := by
  rw [otherB_isL (isL_other h), otherB_isL h]; unfold isL at h; split <;> split <;> omega
theorem inverted_isL {c : Int} (h : isL c) : cayleyref04_inverted.f c = some (otherB c) := by
  rw [otherB_isL h]; unfold cayleyref04_inverted.f; unfold isL at h
  by_cases a : 97 ≤ c
  · rw [if_pos (show c ≥ 97 from a), if_pos a]; congr 1; omega
  · rw [if_neg (show ¬ c ≥ 97 from a), if_neg a]; congr 1; omega
def allL (xs : List Int) : Prop := ∀ c ∈ xs, isL c
theorem allL_of {g : Int} {xs : List Int} (h : isWordL g xs = true) : allL xs := by
  unfold isWordL at h
  simp only [Bool.and_eq_true, List.all_eq_true] at h
  exact fun c hc => isL_of (h.2 c hc)
theorem ref_reduced_l0 (s : ByteArray) (hs : s.size ≤ 1000000000) (hL : allL (bytesOf s)) : ∀ (rest pre : List Int) (out : List Int), bytesOf s = pre ++ rest → out.length ≤ 1000000000 + pre.length →
    Ev (fun k => cayleyref04_reduced.l0 k out s (pre.length : Int)) (rest.foldl (pushW canc) out) := by
  intro rest
  induction rest with
  | nil =>
    intro pre out hp ho
    have hl : pre.length = s.size := by rw [← bytesOf_length, hp]; simp
    refine Ev.step (f := fun _ => some out) (fun k => ?_) (Ev.now _)
    simp only [cayleyref04_reduced.l0]
    rw [if_neg (by omega)]
  | cons c rest ih =>
    intro pre out hp ho
    have hl : pre.length + (rest.length + 1) = s.size := by rw [← bytesOf_length, hp]; simp
    have hrd := bytesOf_at s pre c rest hp
    have hc : isL c := hL c (by rw [hp]; simp)
    have hi : wrap64 ((pre.length : Int) + 1) = ((pre ++ [c]).length : Int) := by rw [w64 (by omega) (by omega)]; simp
    have hlen := pushW_len canc out c
    have next := ih (pre ++ [c]) (pushW canc out c) (by rw [hp]; simp) (by simp; omega)
    simp only [List.foldl_cons]
    by_cases h0 : 0 < out.length
    · have hw : wrap64 ((out.length : Int) - 1) = (out.length : Int) - 1 := w64 (by omega) (by omega)
      refine Ev.step (f := fun k => _) (fun k => by
        simp only [cayleyref04_reduced.l0]
        rw [if_pos (show (pre.length : Int) < s.size by omega), if_pos (show (out.length : Int) > 0 by omega), hw, if_pos (show (0 : Int) ≤ (out.length : Int) - 1 by omega), if_pos (show (out.length : Int) - 1 < (out.length : Int) by omega), if_pos (show (0 : Int) ≤ pre.length by omega), hrd, inverted_isL hc]) ?_
      simp only [Option.bind_some, hi]
      by_cases h1 : rd out ((out.length : Int) - 1) = otherB c
      · have e := pushW_cut (f := canc) (x := c) h0 (by simp [canc, h1])
        simp only [if_pos h1, if_pos (show (out.length : Int) - 1 ≤ (out.length : Int) by omega)]
        have e2 : ((out.length : Int) - 1).toNat = out.length - 1 := by omega
        rw [e2, ← e]
        exact next
      · have e := pushW_add (f := canc) (xs := out) (x := c) (fun _ => by simp [canc, h1])
        simp only [if_neg h1, if_pos (show out.length < 140737488355328 by omega)]
        rw [← e]
        exact next
    · refine Ev.step (f := fun k => _) (fun k => by
        simp only [cayleyref04_reduced.l0]
        rw [if_pos (show (pre.length : Int) < s.size by omega), if_neg (show ¬ (out.length : Int) > 0 by omega), if_pos (show (0 : Int) ≤ pre.length by omega), if_pos (show out.length < 140737488355328 by omega), hrd, hi]) ?_
      have e := pushW_add (f := canc) (xs := out) (x := c) (fun h => absurd h h0)
      rw [← e]
      exact next
theorem ref_reduced_ev (out : List Int) (s : ByteArray) (ho : out.length ≤ 1000000000) (hs : s.size ≤ 1000000000) (hL : allL (bytesOf s)) : Ev (fun k => cayleyref04_reduced.f k out s) ((bytesOf s).foldl (pushW canc) out) := by
  unfold cayleyref04_reduced.f
  simpa using ref_reduced_l0 s hs hL (bytesOf s) [] out rfl (by simpa using ho)
theorem ref_Reduce_ev (s : ByteArray) (hs : s.size ≤ 1000000000) (hL : allL (bytesOf s)) : Ev (fun k => cayleyref04_Reduce.f k s) (strOfNums (redL [s])) := by
  unfold cayleyref04_Reduce.f
  refine Ev.bind (ref_reduced_ev [] s (by simp) hs hL) ?_
  have : redL [s] = (bytesOf s).foldl (pushW canc) [] := rfl
  rw [this]; exact Ev.now _
theorem ref_Index_ev (c g : Int) (h0 : 0 ≤ c) (h1 : c ≤ 255) (hg : 1 ≤ g ∧ g ≤ 8) : ∃ r, Ev (fun k => cayleyref04_Index.f k c g) r ∧ (decide (r < 0) = !letterOk g c) := by
  unfold cayleyref04_Index.f
  by_cases a : c ≥ 97
  · simp only [if_pos a]
    by_cases b : c - 97 < g
    · refine ⟨2 * ((c - 97) % 256), Ev.step (f := fun _ => some (2 * ((c - 97) % 256))) (fun k => ?_) (Ev.now _), ?_⟩
      · simp only [cayleyref04_Index.j0]; rw [if_pos (by simp; omega)]
      · have : letterOk g c = true := by unfold letterOk index; rw [if_pos ⟨a, by omega⟩]; simp; omega
        rw [this]; simp; omega
    · refine ⟨if (c - 65) % 256 < g then (2 * ((c - 65) % 256)) + 1 else -1, Ev.step (f := fun _ => some (if (c - 65) % 256 < g then (2 * ((c - 65) % 256)) + 1 else -1)) (fun k => ?_) (Ev.now _), ?_⟩
      · simp only [cayleyref04_Index.j0]; rw [if_neg (by simp; omega), if_pos (by omega)]; split <;> rfl
      · have hn : ¬ (c - 65) % 256 < g := by omega
        have : letterOk g c = false := by
          unfold letterOk index
          by_cases h : 97 ≤ c ∧ c < 105
          · rw [if_pos h]; simp; omega
          · rw [if_neg h, if_neg (by omega)]; simp
        rw [this, if_neg hn]; simp
  · simp only [if_neg a]
    by_cases b : c ≥ 65
    · refine ⟨if (c - 65) % 256 < g then (2 * ((c - 65) % 256)) + 1 else -1, Ev.step (f := fun _ => some (if (c - 65) % 256 < g then (2 * ((c - 65) % 256)) + 1 else -1)) (fun k => ?_) (Ev.now _), ?_⟩
      · simp only [cayleyref04_Index.j0]; rw [if_neg (by simp), if_pos b]; split <;> rfl
      · by_cases hn : (c - 65) % 256 < g
        · have : letterOk g c = true := by unfold letterOk index; rw [if_neg (by omega), if_pos ⟨b, by omega⟩]; simp; omega
          rw [this, if_pos hn]; simp; omega
        · have : letterOk g c = false := by
            unfold letterOk index
            rw [if_neg (by omega)]
            by_cases h : 65 ≤ c ∧ c < 73
            · rw [if_pos h]; simp; omega
            · rw [if_neg h]; simp
          rw [this, if_neg hn]; simp
    · refine ⟨-1, Ev.step (f := fun _ => some (-1)) (fun k => ?_) (Ev.now _), ?_⟩
      · simp only [cayleyref04_Index.j0]; rw [if_neg (by simp), if_neg b]
      · have : letterOk g c = false := by unfold letterOk index; rw [if_neg (by omega), if_neg (by omega)]; simp
        rw [this]; simp
theorem ref_IsWord_l0 (g : Int) (hg : 1 ≤ g ∧ g ≤ 8) (s : ByteArray) (hs : s.size ≤ 9223372036854775807) : ∀ (rest pre : List Int), bytesOf s = pre ++ rest →
    Ev (fun k => cayleyref04_IsWord.l0 k s g (pre.length : Int)) (decide (s.size ≤ 100000) && rest.all (letterOk g)) := by
  intro rest
  induction rest with
  | nil =>
    intro pre hp
    have hl : pre.length = s.size := by rw [← bytesOf_length, hp]; simp
    refine Ev.step (f := fun _ => some (decide ((s.size : Int) ≤ 100000))) (fun k => ?_) ?_
    · simp only [cayleyref04_IsWord.l0]
      rw [if_neg (by omega)]
    · have : decide ((s.size : Int) ≤ 100000) = (decide (s.size ≤ 100000) && ([] : List Int).all (letterOk g)) := by simp; omega
      rw [← this]; exact Ev.now _
  | cons c rest ih =>
    intro pre hp
    have hl : pre.length + (rest.length + 1) = s.size := by rw [← bytesOf_length, hp]; simp
    have hrd := bytesOf_at s pre c rest hp
    have hb := bt_range s (pre.length : Int)
    rw [hrd] at hb
    obtain ⟨r, hr, hr2⟩ := ref_Index_ev c g hb.1 hb.2 hg
    have hi : wrap64 ((pre.length : Int) + 1) = ((pre ++ [c]).length : Int) := by rw [w64 (by omega) (by omega)]; simp
    refine Ev.step (f := fun k => _) (fun k => by simp only [cayleyref04_IsWord.l0]; rw [if_pos (by omega), if_pos (by omega), hrd]) ?_
    refine Ev.bind hr ?_
    by_cases h : letterOk g c = true
    · have hn : ¬ r < 0 := by simpa [h] using hr2
      simp only [if_neg hn, hi, List.all_cons, h, Bool.true_and]
      exact ih (pre ++ [c]) (by rw [hp]; simp)
    · have h' : letterOk g c = false := by simpa using h
      have hn : r < 0 := by simpa [h'] using hr2
      simp only [if_pos hn, List.all_cons, h', Bool.false_and, Bool.and_false]
      exact Ev.now _
theorem ref_IsWord_ev (g : Int) (hg : 1 ≤ g ∧ g ≤ 8) (s : ByteArray) (hs : s.size ≤ 9223372036854775807) : Ev (fun k => cayleyref04_IsWord.f k s g) (isWordL g (bytesOf s)) := by
  unfold cayleyref04_IsWord.f isWordL
  rw [bytesOf_length]
  simpa using ref_IsWord_l0 g hg s hs (bytesOf s) [] rfl
theorem ref_IsPres_l0 (g : Int) (rels : List ByteArray) (hg : 1 ≤ g ∧ g ≤ 8) (hn : rels.length ≤ 60) : ∀ (rest pre : List ByteArray), rels = pre ++ rest →
    Ev (fun k => cayleyref04_IsPres.l0 k rels (rels.length : Int) (pre.length : Int) g rels) (rest.all (relOk g)) := by
  intro rest
  induction rest with
  | nil =>
    intro pre hp
    refine Ev.step (f := fun _ => some true) (fun k => ?_) (Ev.now _)
    simp only [cayleyref04_IsPres.l0]
    rw [if_neg (by rw [hp]; simp)]
  | cons c rest ih =>
    intro pre hp
    have hlen : pre.length < rels.length := by rw [hp]; simp
    have hrd : rdOf ByteArray.empty rels (pre.length : Int) = c := by rw [hp]; exact rdOf_at pre c rest _
    refine Ev.step (f := fun k => _) (fun k => by simp only [cayleyref04_IsPres.l0]; rw [if_pos (by omega), if_pos (by omega), if_pos (by omega), hrd]) ?_
    by_cases h1 : (c.size : Int) < 1
    · simp only [if_pos h1]
      have : (c :: rest).all (relOk g) = false := by simp [relOk]; omega
      rw [this]; exact Ev.now _
    · simp only [if_neg h1]
      by_cases h2 : (c.size : Int) > 200
      · simp only [if_pos h2]
        have : (c :: rest).all (relOk g) = false := by simp [relOk]; omega
        rw [this]; exact Ev.now _
      · simp only [if_neg h2]
        refine Ev.bind (ref_IsWord_ev g hg c (by omega)) ?_
        by_cases h3 : isWordL g (bytesOf c) = true
        · simp only [if_pos h3]
          refine Ev.bind (ref_Reduce_ev c (by omega) (allL_of h3)) ?_
          by_cases h4 : (strOfNums (redL [c])).toList = c.toList
          · simp only [if_pos h4]
            have hi : wrap64 ((pre.length : Int) + 1) = ((pre ++ [c]).length : Int) := by rw [w64 (by omega) (by omega)]; simp
            simp only [hi]
            have e : (c :: rest).all (relOk g) = rest.all (relOk g) := by
              have hc : relOk g c = true := by simp [relOk, h3, h4]; omega
              simp only [List.all_cons, hc, Bool.true_and]
            rw [e]; exact ih (pre ++ [c]) (by rw [hp]; simp)
          · simp only [if_neg h4]
            have : (c :: rest).all (relOk g) = false := by simp [relOk, h4]
            rw [this]; exact Ev.now _
        · simp only [if_neg h3]
          have : (c :: rest).all (relOk g) = false := by simp [relOk, h3]
          rw [this]; exact Ev.now _
theorem ref_IsPres_ev (g : Int) (rels : List ByteArray) : Ev (fun k => cayleyref04_IsPres.f k g rels) (isPresS g rels) := by
  unfold cayleyref04_IsPres.f isPresS
  by_cases h1 : g < 1
  · simp only [if_pos h1]
    have : decide (1 ≤ g) = false := by simp; omega
    rw [this]; exact Ev.step (f := fun _ => some false) (fun k => by simp [cayleyref04_IsPres.j0]) (Ev.now _)
  · simp only [if_neg h1]
    by_cases h2 : g > 8
    · simp only [if_pos h2]
      have : decide (g ≤ 8) = false := by simp; omega
      rw [this, Bool.and_false, Bool.false_and, Bool.false_and]; exact Ev.step (f := fun _ => some false) (fun k => by simp [cayleyref04_IsPres.j0]) (Ev.now _)
    · simp only [if_neg h2]
      by_cases h3 : (rels.length : Int) > 60
      · have : decide (rels.length ≤ 60) = false := by simp; omega
        rw [this, Bool.and_false, Bool.false_and]; exact Ev.step (f := fun _ => some false) (fun k => by simp [cayleyref04_IsPres.j0, h3]) (Ev.now _)
      · have e1 : decide (1 ≤ g) = true := by simp; omega
        have e2 : decide (g ≤ 8) = true := by simp; omega
        have e3 : decide (rels.length ≤ 60) = true := by simp; omega
        rw [e1, e2, e3]
        refine Ev.step (f := fun k => cayleyref04_IsPres.l0 k rels (rels.length : Int) 0 g rels) (fun k => by simp [cayleyref04_IsPres.j0, h3]) ?_
        simpa using ref_IsPres_l0 g rels ⟨by omega, by omega⟩ (by omega) rels [] rfl
def fits (l : List ByteArray) : Prop := ∀ s ∈ l, s.size ≤ 9223372036854775807
def relsL (rels : List ByteArray) : Prop := ∀ s ∈ rels, s.size ≤ 200 ∧ allL (bytesOf s)
theorem relsL_of {g : Int} {rels : List ByteArray} (h : isPresS g rels = true) : relsL rels := by
  unfold isPresS at h
  simp only [Bool.and_eq_true, List.all_eq_true] at h
  intro s hs
  have := h.2 s hs
  unfold relOk at this
  simp only [Bool.and_eq_true, decide_eq_true_eq] at this
  exact ⟨this.1.1.2, allL_of this.1.2⟩
theorem rdOf_mem {rels : List ByteArray} {i : Int} (h0 : 0 ≤ i) (h1 : i < rels.length) : rdOf ByteArray.empty rels i ∈ rels := by
  unfold rdOf
  rw [List.getD_eq_getElem?_getD, List.getElem?_eq_getElem (by omega)]
  exact List.getElem_mem _
theorem bytesOf_strOf {xs : List Int} (h : ∀ x ∈ xs, 0 ≤ x ∧ x ≤ 255) : bytesOf (strOfNums xs) = xs := by
  unfold bytesOf
  rw [strOfNums_data, List.map_map]
  conv => rhs; rw [← List.map_id xs]
  refine List.map_congr_left (fun x hx => ?_)
  have := h x hx
  simp only [Function.comp, id]
  rw [UInt8.toNat_ofNat']
  omega
theorem allL_range {xs : List Int} (h : allL xs) : ∀ x ∈ xs, 0 ≤ x ∧ x ≤ 255 := fun x hx => by have := h x hx; unfold isL at this; omega
theorem allL_inv {xs : List Int} (h : allL xs) : allL (invL xs) := fun x hx => by
  simp only [invL, List.mem_reverse, List.mem_map] at hx
  obtain ⟨y, hy, rfl⟩ := hx
  exact isL_other (h y hy)
theorem bytesOf_invS {s : ByteArray} (h : allL (bytesOf s)) : bytesOf (invS s) = invL (bytesOf s) := bytesOf_strOf (allL_range (allL_inv h))
theorem invS_size (s : ByteArray) : (invS s).size = s.size := by rw [invS, strOfNums_size]; simp [invL, bytesOf_length]
theorem sideS_L {rels : List ByteArray} (hr : relsL rels) {rel : Int} (inv : Bool) (h0 : 0 ≤ rel) (h1 : rel < rels.length) : (sideS rels rel inv).size ≤ 200 ∧ allL (bytesOf (sideS rels rel inv)) := by
  have hm := hr _ (rdOf_mem h0 h1)
  unfold sideS
  cases inv with
  | true => simp only [if_true]; rw [invS_size, bytesOf_invS hm.2]; exact ⟨hm.1, allL_inv hm.2⟩
  | false => simp only [Bool.false_eq_true, if_false]; exact hm
structure DiskOk (rels : List ByteArray) (d : List S59) : Prop where
  rl : relsL rels
  cell : ∀ c ∈ d, 0 ≤ c.f1 ∧ c.f1 < rels.length ∧ c.f0.size ≤ 100000 ∧ allL (bytesOf c.f0)
  num : d.length ≤ 100000
  all : conjs d ≤ 1000000
theorem diskOk_of {g : Int} {rels : List ByteArray} {d : List S59} (hp : isPresS g rels = true) (hd : isDiskS g rels.length d = true) : DiskOk rels d := by
  unfold isDiskS at hd
  simp only [Bool.and_eq_true, List.all_eq_true, decide_eq_true_eq] at hd
  refine ⟨relsL_of hp, fun c hc => ?_, hd.1.1, hd.2⟩
  have := hd.1.2 c hc
  unfold cellOk at this
  simp only [Bool.and_eq_true, decide_eq_true_eq] at this
  exact ⟨this.1.1, this.1.2, isWordL_len this.2, allL_of this.2⟩
theorem cellW_size {rels : List ByteArray} (hr : relsL rels) {c : S59} (h : 0 ≤ c.f1 ∧ c.f1 < rels.length) : sizes (cellW rels c) ≤ 2 * c.f0.size + 200 := by
  have := (sideS_L hr c.f2 h.1 h.2).1
  unfold cellW
  rw [sizes_cons, sizes_cons, sizes_cons, invS_size]
  simp only [sizes, List.foldl_nil]
  omega
theorem flat_size {rels : List ByteArray} (hr : relsL rels) : ∀ (d : List S59), (∀ c ∈ d, 0 ≤ c.f1 ∧ c.f1 < rels.length) → sizes (d.flatMap (cellW rels)) ≤ 2 * conjs d + 200 * d.length := by
  intro d
  induction d with
  | nil => intro _; simp [sizes]
  | cons c d ih =>
    intro h
    have h1 := cellW_size hr (h c (by simp))
    have h2 := ih (fun x hx => h x (by simp [hx]))
    rw [List.flatMap_cons, sizes_append, conjs_cons, List.length_cons]
    omega
theorem diskOk_bound {rels : List ByteArray} {d : List S59} (h : DiskOk rels d) : boundB rels d = true := by
  rw [boundB_ok]
  refine ⟨fun c hc => ?_, ?_⟩
  · obtain ⟨h0, h1, h2, _⟩ := h.cell c hc
    have := (h.rl _ (rdOf_mem h0 h1)).1
    exact ⟨h0, h1, by omega, by omega⟩
  · have := flat_size h.rl d (fun c hc => ⟨(h.cell c hc).1, (h.cell c hc).2.1⟩)
    have := h.all
    have := h.num
    omega
theorem examine_zero {g : Int} {rels ws : List ByteArray} {ds : List (List S59)} (h : examineS g rels ws ds = 0) : isPresS g rels = true ∧ (∀ s ∈ ws, isWordL g (bytesOf s) = true) ∧ ∀ d ∈ ds, isDiskS g rels.length d = true := by
  unfold examineS at h
  by_cases h1 : isPresS g rels = true
  · by_cases h2 : ws.all (fun s => isWordL g (bytesOf s)) = true
    · by_cases h3 : ds.all (isDiskS g rels.length) = true
      · exact ⟨h1, by simpa using h2, by simpa using h3⟩
      · simp [h1, h2, h3] at h
    · simp [h1, h2] at h
  · simp [h1] at h
structure Came (d : List S59) : Prop where
  num : d.length ≤ 9223372036854775807
  conj : fits (d.map (·.f0))
end H
end Go.Proofs.Ytmmichdlgjcmoaa.PAll
