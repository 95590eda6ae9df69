import Derived.Test.YtehbekgmemebjaaDoorSlPa
namespace Go.Proofs.YtehbekgmemebjaaDoorEv
open Go Go.RowKit
set_option linter.unusedVariables false
set_option linter.unusedSimpArgs false
abbrev MS : Type := List S55 × List Int
def subS (s : ByteArray) (i j : Int) : ByteArray := s.extract i.toNat j.toNat
def putP (s : MS) (x : S55) (n : Int) : MS := (s.1 ++ [x], s.2 ++ [n])
def joinP (s : MS) (a b : Int) : MS × Int :=
  if a < 0 then (s, b) else if b < 0 then (s, a) else (putP s ⟨⟨#[]⟩, a, b, 0⟩ (wrap64 (rd s.2 a + rd s.2 b)), (s.1.length : Int))
def timesP (s : MS) (a n : Int) : MS × Int :=
  if n = 0 then (s, -1) else if n = 1 then (s, a) else (putP s ⟨⟨#[]⟩, a, 0, n⟩ (wrap64 (n * rd s.2 a)), (s.1.length : Int))
def cutP : Nat → MS → Int → Int → Int → MS × Int
  | 0, s, _, _, _ => (s, -1)
  | f + 1, s, n, i, j =>
    let x := rd_T55 s.1 n
    if i ≥ j then (s, -1)
    else if i = 0 ∧ j = rd s.2 n then (s, n)
    else if x.f0.size ≠ 0 then (putP s ⟨subS x.f0 i j, 0, 0, 0⟩ (j - i), (s.1.length : Int))
    else
      let z := rd s.2 x.f1
      if x.f3 ≠ 0 then
        if Int.tdiv i z = Int.tdiv j z then cutP f s x.f1 (Int.tmod i z) (Int.tmod j z)
        else
          let h := if Int.tmod i z > 0 then cutP f s x.f1 (Int.tmod i z) z else (s, -1)
          let p := if Int.tmod i z > 0 then Int.tdiv i z + 1 else Int.tdiv i z
          let t := cutP f h.1 x.f1 0 (Int.tmod j z)
          let m := timesP t.1 x.f1 (Int.tdiv j z - p)
          let k := joinP m.1 h.2 m.2
          joinP k.1 k.2 t.2
      else
        let a := cutP f s x.f1 (min i z) (min j z)
        let b := cutP f a.1 x.f2 (max (i - z) 0) (max (j - z) 0)
        joinP b.1 a.2 b.2
structure ExM (s s' : MS) : Prop where
  l : ∃ r, s'.1 = s.1 ++ r
  o : ∃ r, s'.2 = s.2 ++ r
theorem ExM.refl (s : MS) : ExM s s := ⟨⟨[], by simp⟩, ⟨[], by simp⟩⟩
theorem ExM.trans {a b c : MS} (h : ExM a b) (k : ExM b c) : ExM a c := by
  obtain ⟨⟨r, h1⟩, ⟨p, h2⟩⟩ := h
  obtain ⟨⟨r', k1⟩, ⟨p', k2⟩⟩ := k
  exact ⟨⟨r ++ r', by rw [k1, h1, List.append_assoc]⟩, ⟨p ++ p', by rw [k2, h2, List.append_assoc]⟩⟩
theorem ExM.put (s : MS) (x : S55) (n : Int) : ExM s (putP s x n) := ⟨⟨[x], rfl⟩, ⟨[n], rfl⟩⟩
theorem ExM.rdT {s s' : MS} (h : ExM s s') {n : Int} (h0 : 0 ≤ n) (h1 : n < s.1.length) : rd_T55 s'.1 n = rd_T55 s.1 n := by
  obtain ⟨r, h2⟩ := h.l
  rw [h2]; unfold rd_T55
  rw [List.getD_eq_getElem?_getD, List.getD_eq_getElem?_getD, List.getElem?_append_left (by omega)]
theorem ExM.rd {s s' : MS} (h : ExM s s') {n : Int} (h0 : 0 ≤ n) (h1 : n < s.2.length) : Go.Proofs.YtehbekgmemebjaaDoorEv.rd s'.2 n = Go.Proofs.YtehbekgmemebjaaDoorEv.rd s.2 n := by
  obtain ⟨r, h2⟩ := h.o
  rw [h2]; unfold Go.Proofs.YtehbekgmemebjaaDoorEv.rd
  rw [List.getD_eq_getElem?_getD, List.getD_eq_getElem?_getD, List.getElem?_append_left (by omega)]
theorem ExM.len {s s' : MS} (h : ExM s s') : s.1.length ≤ s'.1.length := by
  obtain ⟨r, h2⟩ := h.l
  rw [h2, List.length_append]; omega
theorem ExM.let {s s' : MS} (h : ExM s s') (hs : Rope s.1 s.2) {n i c : Int} (hl : LetR s.1 s.2 n i c) : LetR s'.1 s'.2 n i c := by
  obtain ⟨r, h1⟩ := h.l
  obtain ⟨p, h2⟩ := h.o
  rw [h1, h2]
  exact hl.app hs.len
theorem rope_put {s : MS} (h : Rope s.1 s.2) (hl : s.1.length + 1 ≤ 4000) {x : S55} {n : Int} (hx : stepL s.2 x = some n) (hn : 1 ≤ n ∧ n ≤ 1152921504606846976) : Rope (putP s x n).1 (putP s x n).2 := by
  refine ⟨by simp [putP]; omega, by simp [putP, h.len], ?_, ?_⟩
  · intro v hv
    rcases List.mem_append.1 hv with hv | hv
    · exact h.good v hv
    · rw [List.mem_singleton.1 hv]; exact hn
  · intro j y hj
    by_cases hlt : j < s.1.length
    · have hj' : s.1[j]? = some y := by
        have : (s.1 ++ [x])[j]? = some y := hj
        rwa [List.getElem?_append_left hlt] at this
      obtain ⟨v, h1, h2⟩ := h.node j y hj'
      have hle : j < s.2.length := by rw [h.len]; exact hlt
      refine ⟨v, ?_, ?_⟩
      · show stepL ((s.2 ++ [n]).take j) y = some v
        rw [List.take_append_of_le_length (by omega)]; exact h1
      · show (s.2 ++ [n])[j]? = some v
        rw [List.getElem?_append_left hle]; exact h2
    · have hj2 : (s.1 ++ [x])[j]? = some y := hj
      have hjl : j = s.1.length := by
        have := (List.getElem?_eq_some_iff.1 hj2).1
        rw [List.length_append, List.length_singleton] at this
        omega
      subst hjl
      rw [List.getElem?_append_right (Nat.le_refl _), Nat.sub_self] at hj2
      cases hj2
      have e : s.1.length = s.2.length := h.len.symm
      refine ⟨n, ?_, ?_⟩
      · show stepL ((s.2 ++ [n]).take s.1.length) x = some n
        rw [e, List.take_left' rfl]; exact hx
      · show (s.2 ++ [n])[s.1.length]? = some n
        rw [e, List.getElem?_append_right (Nat.le_refl _), Nat.sub_self]; rfl
structure Sp (s : MS) (r n : Int) (g : Int → Int → Prop) : Prop where
  r0 : 0 ≤ r
  r1 : r < s.1.length
  len : rd s.2 r = n
  spell : ∀ k c, 0 ≤ k → k < n → g k c → LetR s.1 s.2 r k c
def SpO (s : MS) (r n : Int) (g : Int → Int → Prop) : Prop := if n ≤ 0 then r = -1 else Sp s r n g
theorem Sp.ex {s s' : MS} {r n : Int} {g : Int → Int → Prop} (h : Sp s r n g) (hs : Rope s.1 s.2) (e : ExM s s') : Sp s' r n g :=
  ⟨h.r0, Int.lt_of_lt_of_le h.r1 (by have := e.len; omega), by rw [e.rd h.r0 (by rw [hs.len]; exact h.r1)]; exact h.len, fun k c k0 k1 hg => e.let hs (h.spell k c k0 k1 hg)⟩
theorem SpO.ex {s s' : MS} {r n : Int} {g : Int → Int → Prop} (h : SpO s r n g) (hs : Rope s.1 s.2) (e : ExM s s') : SpO s' r n g := by
  unfold SpO at *
  split at h
  · rename_i hc; rw [if_pos hc]; exact h
  · rename_i hc; rw [if_neg hc]; exact h.ex hs e
theorem Sp.mono {s : MS} {r n : Int} {g g' : Int → Int → Prop} (h : Sp s r n g) (hg : ∀ k c, 0 ≤ k → k < n → g' k c → g k c) : Sp s r n g' :=
  ⟨h.r0, h.r1, h.len, fun k c k0 k1 hk => h.spell k c k0 k1 (hg k c k0 k1 hk)⟩
theorem SpO.mono {s : MS} {r n : Int} {g g' : Int → Int → Prop} (h : SpO s r n g) (hg : ∀ k c, 0 ≤ k → k < n → g' k c → g k c) : SpO s r n g' := by
  unfold SpO at *
  split at h
  · rename_i hc; rw [if_pos hc]; exact h
  · rename_i hc; rw [if_neg hc]; exact h.mono hg
structure Made (s : MS) (w : Nat) (p : MS × Int) (n : Int) (g : Int → Int → Prop) : Prop where
  ex : ExM s p.1
  rope : Rope p.1.1 p.1.2
  len : p.1.1.length ≤ s.1.length + w
  sp : SpO p.1 p.2 n g
theorem rdT_new (s : MS) (x : S55) (n : Int) : rd_T55 (putP s x n).1 (s.1.length : Int) = x := by
  apply rdT_at; simp [putP]
theorem rd_new {s : MS} (h : s.2.length = s.1.length) (x : S55) (n : Int) : rd (putP s x n).2 (s.1.length : Int) = n := by
  apply rd_at'; rw [← h]; simp [putP]
theorem join_ok {s : MS} (hs : Rope s.1 s.2) {a b m n : Int} {g h : Int → Int → Prop} (ha : SpO s a m g) (hb : SpO s b n h) (hm : 0 ≤ m) (hn : 0 ≤ n) (hmn : m + n ≤ 1152921504606846976) (hl : 0 < m → 0 < n → s.1.length + 1 ≤ 4000) :
    Made s (if 0 < m ∧ 0 < n then 1 else 0) (joinP s a b) (m + n) (fun k c => if k < m then g k c else h (k - m) c) := by
  unfold joinP
  by_cases h1 : m ≤ 0
  · have hm0 : m = 0 := by omega
    unfold SpO at ha
    rw [if_pos h1] at ha
    subst hm0 ha
    rw [if_neg (show ¬ ((0 : Int) < 0 ∧ 0 < n) by omega), if_pos (show (-1 : Int) < 0 by decide)]
    refine ⟨ExM.refl s, hs, Nat.le_refl _, ?_⟩
    rw [Int.zero_add]
    refine hb.mono fun k c k0 k1 hk => ?_
    rw [if_neg (by omega), Int.sub_zero] at hk; exact hk
  unfold SpO at ha
  rw [if_neg h1] at ha
  have a0 := ha.r0
  rw [if_neg (show ¬ a < 0 by omega)]
  by_cases h2 : n ≤ 0
  · have hn0 : n = 0 := by omega
    unfold SpO at hb
    rw [if_pos h2] at hb
    subst hn0 hb
    rw [if_neg (show ¬ (0 < m ∧ (0 : Int) < 0) by omega), if_pos (show (-1 : Int) < 0 by decide)]
    refine ⟨ExM.refl s, hs, Nat.le_refl _, ?_⟩
    rw [Int.add_zero]
    unfold SpO
    rw [if_neg h1]
    refine ha.mono fun k c k0 k1 hk => ?_
    rw [if_pos k1] at hk; exact hk
  unfold SpO at hb
  rw [if_neg h2] at hb
  have a1 := ha.r1
  have b0 := hb.r0
  have b1 := hb.r1
  rw [if_pos (show 0 < m ∧ 0 < n by omega), if_neg (show ¬ b < 0 by omega)]
  rw [ha.len, hb.len, w64 (by omega) (by omega)]
  have hl' := hl (by omega) (by omega)
  have hz : (⟨#[]⟩ : ByteArray).size = 0 := rfl
  have hr : Rope (putP s ⟨⟨#[]⟩, a, b, 0⟩ (m + n)).1 (putP s ⟨⟨#[]⟩, a, b, 0⟩ (m + n)).2 := by
    refine rope_put hs hl' ?_ ⟨by omega, hmn⟩
    unfold stepL
    rw [if_pos hz, if_pos rfl, if_pos ⟨a0, by rw [hs.len]; exact a1, b0, by rw [hs.len]; exact b1, by show rd s.2 a + rd s.2 b ≤ _; rw [ha.len, hb.len]; exact hmn⟩]
    show some (rd s.2 a + rd s.2 b) = _
    rw [ha.len, hb.len]
  have e := ExM.put s ⟨⟨#[]⟩, a, b, 0⟩ (m + n)
  refine ⟨e, hr, by simp [putP], ?_⟩
  unfold SpO
  rw [if_neg (by omega)]
  have hx := rdT_new s ⟨⟨#[]⟩, a, b, 0⟩ (m + n)
  have hlen : (putP s ⟨⟨#[]⟩, a, b, 0⟩ (m + n)).1.length = s.1.length + 1 := by simp [putP]
  have holen : (putP s ⟨⟨#[]⟩, a, b, 0⟩ (m + n)).2.length = s.1.length + 1 := by simp [putP, hs.len]
  have hra : rd (putP s ⟨⟨#[]⟩, a, b, 0⟩ (m + n)).2 a = m := by rw [e.rd a0 (by rw [hs.len]; exact a1)]; exact ha.len
  refine ⟨by omega, by rw [hlen]; omega, rd_new hs.len _ _, fun k c k0 k1 hg => ?_⟩
  have htl : (⟨#[]⟩ : ByteArray).toList = [] := (toList_size _).2 rfl
  by_cases hk : k < m
  · rw [if_pos hk] at hg
    refine .left _ _ _ (by omega) (by rw [hlen]; omega) (by rw [hx]; exact htl) (by rw [hx]; simp) (by rw [hx]; exact a0) (by rw [hx, holen]; show a < _; omega) (by rw [hx]; show k < rd _ a; rw [hra]; exact hk) ?_
    rw [hx]
    exact e.let hs (ha.spell k c k0 hk hg)
  · rw [if_neg hk] at hg
    refine .right _ _ _ (by omega) (by rw [hlen]; omega) (by rw [hx]; exact htl) (by rw [hx]; simp) (by rw [hx]; exact a0) (by rw [hx, holen]; show a < _; omega) (by rw [hx]; show ¬ k < rd _ a; rw [hra]; exact hk) ?_
    rw [hx]
    show LetR _ _ b (wrap64 (k - rd _ a)) c
    rw [hra, w64 (by omega) (by omega)]
    exact e.let hs (hb.spell (k - m) c (by omega) (by omega) hg)
theorem times_ok {s : MS} (hs : Rope s.1 s.2) {a z t : Int} {g : Int → Int → Prop} (ha : Sp s a z g) (hz : 0 < z) (ht : 0 ≤ t) (hb : t * z ≤ 1152921504606846976) (hl : 2 ≤ t → s.1.length + 1 ≤ 4000) :
    Made s (if 2 ≤ t then 1 else 0) (timesP s a t) (t * z) (fun k c => g (Int.tmod k z) c) := by
  unfold timesP
  by_cases h0 : t = 0
  · subst h0
    rw [if_pos rfl, if_neg (by omega), Int.zero_mul]
    exact ⟨ExM.refl s, hs, Nat.le_refl _, by unfold SpO; rw [if_pos (by omega)]⟩
  rw [if_neg h0]
  by_cases h1 : t = 1
  · subst h1
    rw [if_pos rfl, if_neg (by omega), Int.one_mul]
    refine ⟨ExM.refl s, hs, Nat.le_refl _, ?_⟩
    unfold SpO
    rw [if_neg (by omega)]
    refine ha.mono fun k c k0 k1 hk => ?_
    rw [Int.tmod_eq_of_lt k0 k1] at hk; exact hk
  rw [if_neg h1, if_pos (by omega)]
  have a0 := ha.r0
  have a1 := ha.r1
  have htz : 0 < t * z := Int.mul_pos (by omega) hz
  rw [ha.len, w64 (by omega) (by omega)]
  have hr : Rope (putP s ⟨⟨#[]⟩, a, 0, t⟩ (t * z)).1 (putP s ⟨⟨#[]⟩, a, 0, t⟩ (t * z)).2 := by
    refine rope_put hs (hl (by omega)) ?_ ⟨by omega, hb⟩
    unfold stepL
    have hz0 : (⟨#[]⟩ : ByteArray).size = 0 := rfl
    rw [if_pos hz0, if_neg (by show ¬ t = 0; exact h0), if_pos ⟨by show 1 ≤ t; omega, a0, by rw [hs.len]; exact a1, rfl, by show t ≤ _ / rd s.2 a; rw [ha.len]; exact (Int.le_ediv_iff_mul_le hz).2 hb⟩]
    show some (t * rd s.2 a) = _
    rw [ha.len]
  have e := ExM.put s ⟨⟨#[]⟩, a, 0, t⟩ (t * z)
  refine ⟨e, hr, by simp [putP], ?_⟩
  unfold SpO
  rw [if_neg (by omega)]
  have hx := rdT_new s ⟨⟨#[]⟩, a, 0, t⟩ (t * z)
  have hlen : (putP s ⟨⟨#[]⟩, a, 0, t⟩ (t * z)).1.length = s.1.length + 1 := by simp [putP]
  have holen : (putP s ⟨⟨#[]⟩, a, 0, t⟩ (t * z)).2.length = s.1.length + 1 := by simp [putP, hs.len]
  have hra : rd (putP s ⟨⟨#[]⟩, a, 0, t⟩ (t * z)).2 a = z := by rw [e.rd a0 (by rw [hs.len]; exact a1)]; exact ha.len
  refine ⟨by omega, by rw [hlen]; omega, rd_new hs.len _ _, fun k c k0 k1 hg => ?_⟩
  have htl : (⟨#[]⟩ : ByteArray).toList = [] := (toList_size _).2 rfl
  refine .times _ _ _ (by omega) (by rw [hlen]; omega) (by rw [hx]; exact htl) (by rw [hx]; show t > 0; omega) (by rw [hx]; exact a0) (by rw [hx, holen]; show a < _; omega) (by rw [hx]; show rd _ a ≠ 0; rw [hra]; omega) ?_
  rw [hx]
  show LetR _ _ a (Int.tmod k (rd _ a)) c
  rw [hra]
  exact e.let hs (ha.spell _ c (Int.tmod_nonneg _ k0) (Int.tmod_lt_of_pos _ hz) hg)
def WN (n i j v : Int) : Nat := if j ≤ i ∨ (i = 0 ∧ j = v) then 0 else if i = 0 ∨ j = v then (2 * (n + 1)).toNat else (4 * (n + 1) + 1).toNat
theorem let_leaf {l : List S55} {o : List Int} {n i c : Int} (h : LetR l o n i c) (hw : (rd_T55 l n).f0.size ≠ 0) : 0 ≤ i ∧ i < (rd_T55 l n).f0.size ∧ c = bt (rd_T55 l n).f0 i := by
  cases h with
  | leaf _ _ h0 h1 hw i0 i1 => exact ⟨i0, i1, rfl⟩
  | times _ _ _ h0 h1 hw' => exact absurd ((toList_size _).1 hw') hw
  | left _ _ _ h0 h1 hw' => exact absurd ((toList_size _).1 hw') hw
  | right _ _ _ h0 h1 hw' => exact absurd ((toList_size _).1 hw') hw
theorem let_times {l : List S55} {o : List Int} {n i c : Int} (h : LetR l o n i c) (hw : (rd_T55 l n).f0.size = 0) (ht : 1 ≤ (rd_T55 l n).f3) : LetR l o (rd_T55 l n).f1 (Int.tmod i (rd o (rd_T55 l n).f1)) c := by
  cases h with
  | leaf _ _ h0 h1 hw' i0 i1 => exact absurd ((toList_size _).2 hw) hw'
  | times _ _ _ h0 h1 hw' ht' f0 f1 hz h => exact h
  | left _ _ _ h0 h1 hw' ht' => exact absurd ht (by omega)
  | right _ _ _ h0 h1 hw' ht' => exact absurd ht (by omega)
theorem let_pair {l : List S55} {o : List Int} {n i c : Int} (h : LetR l o n i c) (hw : (rd_T55 l n).f0.size = 0) (ht : (rd_T55 l n).f3 = 0) : if i < rd o (rd_T55 l n).f1 then LetR l o (rd_T55 l n).f1 i c else LetR l o (rd_T55 l n).f2 (wrap64 (i - rd o (rd_T55 l n).f1)) c := by
  cases h with
  | leaf _ _ h0 h1 hw' i0 i1 => exact absurd ((toList_size _).2 hw) hw'
  | times _ _ _ h0 h1 hw' ht' => exact absurd ht (by omega)
  | left _ _ _ h0 h1 hw' ht' f0 f1 hi h => rw [if_pos hi]; exact h
  | right _ _ _ h0 h1 hw' ht' f0 f1 hi h => rw [if_neg hi]; exact h
theorem Made.keep {s : MS} {w w' : Nat} {p : MS × Int} {n n' : Int} {g g' : Int → Int → Prop} (h : Made s w p n g) (hw : w ≤ w') (hn : n = n') (hg : ∀ k c, 0 ≤ k → k < n' → g' k c → g k c) : Made s w' p n' g' := by
  subst hn
  exact ⟨h.ex, h.rope, by have := h.len; omega, h.sp.mono hg⟩
theorem sub_size {s : ByteArray} {i j : Int} (h0 : 0 ≤ i) (h1 : i ≤ j) (h2 : j ≤ s.size) : ((subS s i j).size : Int) = j - i := by
  unfold subS
  rw [ByteArray.size_extract]; omega
theorem sub_bt {s : ByteArray} {i j k : Int} (h0 : 0 ≤ i) (h1 : i ≤ j) (h2 : j ≤ s.size) (k0 : 0 ≤ k) (k1 : k < j - i) : bt (subS s i j) k = bt s (i + k) := by
  have hs := sub_size h0 h1 h2
  unfold bt
  rw [dif_pos (by omega), dif_pos (by omega)]
  unfold subS
  simp only [ByteArray.getElem_extract]
  congr 3
  omega
theorem sub_check {s : ByteArray} {i j : Int} (h : checkS s = 0) : checkS (subS s i j) = 0 := by
  unfold checkS at *
  split at h
  case isFalse => cases h
  rename_i hs
  split at h
  case isFalse => cases h
  rename_i ha
  have h1 : (subS s i j).size ≤ 100000 := by unfold subS; rw [ByteArray.size_extract]; omega
  have h2 : allLB (subS s i j) = true := by
    unfold allLB bytesOf subS at *
    rw [List.all_eq_true] at *
    intro c hc
    refine ha c ?_
    rw [List.mem_map] at hc ⊢
    obtain ⟨x, hx, rfl⟩ := hc
    refine ⟨x, ?_, rfl⟩
    simp only [ByteArray.data_extract, Array.toList_extract] at hx
    exact List.mem_of_mem_drop (List.mem_of_mem_take (by simpa [List.extract_eq_take_drop] using hx))
  rw [if_pos h1, if_pos h2]
theorem W_zero {n i j v : Int} (h : j ≤ i ∨ (i = 0 ∧ j = v)) : WN n i j v = 0 := by unfold WN; rw [if_pos h]
theorem W_end {n i j v : Int} (h : i = 0 ∨ j = v) : WN n i j v ≤ (2 * (n + 1)).toNat := by
  unfold WN
  split
  · omega
  · first | exact Nat.le_refl _ | (rw [if_pos h]; exact Nat.le_refl _)
theorem W_all (n i j v : Int) (hn : 0 ≤ n) : WN n i j v ≤ (4 * (n + 1) + 1).toNat := by
  unfold WN
  split
  · omega
  · split <;> omega
theorem W_lt {n i j v : Int} (hij : i < j) (h : ¬ (i = 0 ∧ j = v)) : ((i = 0 ∨ j = v) → (2 * (n + 1)).toNat = WN n i j v) ∧ (¬ (i = 0 ∨ j = v) → (4 * (n + 1) + 1).toNat = WN n i j v) := by
  unfold WN
  rw [if_neg (by omega)]
  exact ⟨fun h => by rw [if_pos h], fun h => by rw [if_neg h]⟩
set_option maxHeartbeats 2000000 in
theorem cut_ok : ∀ (f : Nat) (s : MS), Rope s.1 s.2 → ∀ n i j : Int, 0 ≤ n → n < s.1.length → n < f → 0 ≤ i → i ≤ rd s.2 n → 0 ≤ j → j ≤ rd s.2 n → s.1.length + WN n i j (rd s.2 n) ≤ 4000 →
    Made s (WN n i j (rd s.2 n)) (cutP f s n i j) (j - i) (fun k c => LetR s.1 s.2 n (i + k) c)
  | 0, s, hs, n, i, j, n0, n1, nf, i0, i1, j0, j1, hl => by omega
  | f + 1, s, hs, n, i, j, n0, n1, nf, i0, i1, j0, j1, hl => by
    simp only [cutP]
    by_cases hij : i ≥ j
    · rw [if_pos hij]
      exact ⟨ExM.refl s, hs, Nat.le_add_right _ _, by unfold SpO; rw [if_pos (by omega)]⟩
    rw [if_neg hij]
    by_cases hw : i = 0 ∧ j = rd s.2 n
    · rw [if_pos hw]
      refine ⟨ExM.refl s, hs, Nat.le_add_right _ _, ?_⟩
      unfold SpO
      rw [if_neg (by omega)]
      obtain ⟨rfl, rfl⟩ := hw
      exact ⟨n0, n1, by show rd s.2 n = rd s.2 n - 0; omega, fun k c _ _ hk => by rw [Int.zero_add] at hk; exact hk⟩
    rw [if_neg hw]
    obtain ⟨hW1, hW2⟩ := W_lt (n := n) (show i < j by omega) hw
    obtain ⟨N, rfl⟩ : ∃ N : Nat, n = N := ⟨n.toNat, by omega⟩
    have hx : s.1[N]? = some s.1[N] := List.getElem?_eq_getElem (by omega)
    obtain ⟨v, hv, v1, v2, hnode⟩ := hs.is hx
    have hr := rdT_at hx
    have hrv := rd_at' hv
    rw [hrv] at i1 j1 hl hW1 hW2 hw ⊢
    cases hnode with
    | leaf h0 e =>
      rw [hr, if_pos h0]
      have hst : stepL s.2 ⟨subS s.1[N].f0 i j, 0, 0, 0⟩ = some (j - i) := by
        obtain ⟨v', hv', _⟩ := hs.node N _ hx
        unfold stepL at hv'
        rw [if_neg h0] at hv'
        split at hv'
        case isFalse => cases hv'
        rename_i hc
        have hsz := sub_size (s := s.1[N].f0) (j := j) i0 (by omega) (by omega)
        unfold stepL
        rw [if_neg (show ¬ (subS s.1[N].f0 i j).size = 0 by omega), if_pos ⟨show (subS s.1[N].f0 i j).size ≤ 100 by have := hc.1; omega, rfl, rfl, rfl, sub_check hc.2.2.2.2⟩]
        show some ((subS s.1[N].f0 i j).size : Int) = _
        rw [hsz]
      have hw1 : 1 ≤ WN (N : Int) i j v := by omega
      have hrope := rope_put hs (by omega) hst (by omega)
      refine ⟨ExM.put _ _ _, hrope, by simp [putP]; omega, ?_⟩
      unfold SpO
      rw [if_neg (by omega)]
      have hxn := rdT_new s ⟨subS s.1[N].f0 i j, 0, 0, 0⟩ (j - i)
      refine ⟨by omega, by simp [putP]; omega, rd_new hs.len _ _, fun k c k0 k1 hg => ?_⟩
      obtain ⟨_, _, rfl⟩ := let_leaf hg (by rw [hr]; exact h0)
      rw [hr, ← sub_bt (j := j) i0 (by omega) (by omega) k0 k1]
      have hsz := sub_size (s := s.1[N].f0) (j := j) i0 (by omega) (by omega)
      have := LetR.leaf (l := (putP s ⟨subS s.1[N].f0 i j, 0, 0, 0⟩ (j - i)).1) (o := (putP s ⟨subS s.1[N].f0 i j, 0, 0, 0⟩ (j - i)).2) (s.1.length : Int) k (by omega) (by simp [putP]; omega) (by rw [hxn]; intro hc; have : (subS s.1[N].f0 i j).size = 0 := (toList_size _).1 hc; omega) k0 (by rw [hxn]; show k < ((subS s.1[N].f0 i j).size : Int); omega)
      rw [hxn] at this
      exact this
    | times h0 ht f0 f1 h2 e =>
      rw [hr, if_neg (by omega), if_pos (by omega)]
      have hin : s.1[N].f1 < (s.1.length : Int) := by omega
      have zp := hs.good.rd f0 (by rw [hs.len]; omega)
      generalize hz : rd s.2 s.1[N].f1 = z at *
      have hlt : ∀ k c, LetR s.1 s.2 (N : Int) k c → LetR s.1 s.2 s.1[N].f1 (Int.tmod k z) c := fun k c hk => by
        have := let_times hk (by rw [hr]; exact h0) (by rw [hr]; exact ht)
        rw [hr, hz] at this; exact this
      rw [Int.tdiv_eq_ediv_of_nonneg i0, Int.tdiv_eq_ediv_of_nonneg j0, Int.tmod_eq_emod_of_nonneg i0, Int.tmod_eq_emod_of_nonneg j0]
      have ei := Int.mul_ediv_add_emod i z
      have ej := Int.mul_ediv_add_emod j z
      have ai := Int.emod_nonneg i (show z ≠ 0 by omega)
      have bi := Int.emod_lt_of_pos i (show 0 < z by omega)
      have aj := Int.emod_nonneg j (show z ≠ 0 by omega)
      have bj := Int.emod_lt_of_pos j (show 0 < z by omega)
      have hq : i / z ≤ j / z := Int.ediv_le_ediv (by omega) (by omega)
      have p0 : 0 ≤ i / z := Int.ediv_nonneg i0 (by omega)
      -- the places in a copy
      have tm : ∀ q r : Int, 0 ≤ q → 0 ≤ r → r < z → Int.tmod (z * q + r) z = r := fun q r hq0 hr0 hr1 => by
        have : 0 ≤ z * q := Int.mul_nonneg (by omega) hq0
        rw [Int.tmod_eq_emod_of_nonneg (by omega), Int.add_comm, Int.add_mul_emod_self_left, Int.emod_eq_of_lt hr0 hr1]
      generalize i / z = p at *
      generalize j / z = q at *
      generalize i % z = a at *
      generalize j % z = b at *
      by_cases hpq : p = q
      · rw [if_pos hpq]
        subst hpq
        have wa : WN s.1[N].f1 a b z ≤ WN (N : Int) i j v := by
          have a1 := W_all s.1[N].f1 a b z f0
          have a2 := @W_end s.1[N].f1 a b z
          by_cases c1 : i = 0
          · have : 0 ≤ z * p := Int.mul_nonneg (by omega) p0
            omega
          · by_cases c2 : j = v
            · exfalso
              have hpt : z * p + z ≤ z * s.1[N].f3 ∨ z * s.1[N].f3 ≤ z * p := by
                rcases Int.lt_or_le p s.1[N].f3 with h | h
                · left
                  have := Int.mul_le_mul_of_nonneg_left (show p + 1 ≤ s.1[N].f3 by omega) (show 0 ≤ z by omega)
                  rw [Int.mul_add, Int.mul_one] at this; exact this
                · right; exact Int.mul_le_mul_of_nonneg_left h (by omega)
              rw [Int.mul_comm] at e
              omega
            · omega
        have hc := cut_ok f s hs s.1[N].f1 a b f0 hin (by omega) ai (by rw [hz]; omega) aj (by rw [hz]; omega) (by rw [hz]; omega)
        rw [hz] at hc
        refine hc.keep wa (by omega) fun k c k0 k1 hk => ?_
        have := hlt _ _ hk
        rw [show i + k = z * p + (a + k) by omega, tm p (a + k) p0 (by omega) (by omega)] at this
        exact this
      rw [if_neg hpq]
      have hlq : p + 1 ≤ q := by omega
      have hqz : z * (p + 1) ≤ z * q := Int.mul_le_mul_of_nonneg_left hlq (by omega)
      rw [Int.mul_add, Int.mul_one] at hqz
      have pz : 0 ≤ z * p := Int.mul_nonneg (by omega) p0
      -- what the head is
      have hhead : ∃ ph : MS × Int, ph = (if a > 0 then cutP f s s.1[N].f1 a z else (s, -1)) ∧ Made s (if a > 0 then (2 * (s.1[N].f1 + 1)).toNat else 0) ph (if a > 0 then z - a else 0) (fun k c => LetR s.1 s.2 s.1[N].f1 (a + k) c) := by
        refine ⟨_, rfl, ?_⟩
        by_cases ha : a > 0
        · rw [if_pos ha, if_pos ha, if_pos ha]
          have w1 := @W_end s.1[N].f1 a z z (.inr rfl)
          have hc := cut_ok f s hs s.1[N].f1 a z f0 hin (by omega) ai (by rw [hz]; omega) (by omega) (by rw [hz]; omega) (by rw [hz]; by_cases c1 : i = 0 <;> by_cases c2 : j = v <;> omega)
          rw [hz] at hc
          exact hc.keep w1 rfl fun k c _ _ hk => hk
        · rw [if_neg ha, if_neg ha, if_neg ha]
          exact ⟨ExM.refl s, hs, Nat.le_refl _, by unfold SpO; rw [if_pos (by omega)]⟩
      obtain ⟨ph, eph, hh⟩ := hhead
      rw [← eph]
      have hp' : ∃ p' : Int, p' = (if a > 0 then p + 1 else p) ∧ (if a > 0 then z - a else 0) = z * p' - i ∧ p' ≤ q ∧ 0 ≤ p' := by
        refine ⟨_, rfl, ?_⟩
        by_cases ha : a > 0
        · simp only [if_pos ha, Int.mul_add, Int.mul_one]; omega
        · simp only [if_neg ha]; omega
      obtain ⟨p', ep, hpl, hpq', hp0⟩ := hp'
      rw [← ep]
      rw [hpl] at hh
      have hlh := hh.len
      have hzh : rd ph.1.2 s.1[N].f1 = z := by rw [hh.ex.rd f0 (by rw [hs.len]; exact hin)]; exact hz
      have w2 := @W_end s.1[N].f1 0 b z (.inl rfl)
      have w3 := @W_zero s.1[N].f1 0 b z
      have hb0 : j = v → b = 0 := fun hjv => by
        rw [Int.mul_comm] at e
        rcases Int.lt_trichotomy q s.1[N].f3 with h | h | h
        · have := Int.mul_le_mul_of_nonneg_left (show q + 1 ≤ s.1[N].f3 by omega) (show 0 ≤ z by omega)
          rw [Int.mul_add, Int.mul_one] at this
          omega
        · rw [← h] at e; omega
        · have := Int.mul_le_mul_of_nonneg_left (show s.1[N].f3 + 1 ≤ q by omega) (show 0 ≤ z by omega)
          rw [Int.mul_add, Int.mul_one] at this
          omega
      have hw0 : (if a > 0 then (2 * (s.1[N].f1 + 1)).toNat else 0) + WN s.1[N].f1 0 b z + (if 2 ≤ q - p' then 1 else 0) + (if 0 < z * p' - i ∧ 0 < (q - p') * z then 1 else 0) + (if 0 < z * p' - i + (q - p') * z ∧ 0 < b - 0 then 1 else 0) ≤ WN (N : Int) i j v := by
        have s1 : ∀ (P : Prop) [Decidable P], (if P then 1 else 0) ≤ 1 := fun P _ => by split <;> omega
        have k1 := s1 (2 ≤ q - p')
        have k2 := s1 (0 < z * p' - i ∧ 0 < (q - p') * z)
        have k3 := s1 (0 < z * p' - i + (q - p') * z ∧ 0 < b - 0)
        by_cases c1 : i = 0
        · have ha0 : ¬ a > 0 := by omega
          rw [if_neg ha0]
          have hz0 : z * p' - i = 0 := by rw [← hpl, if_neg ha0]
          rw [if_neg (show ¬ (0 < z * p' - i ∧ 0 < (q - p') * z) by omega)]
          have := hW1 (.inl c1)
          omega
        · by_cases c2 : j = v
          · have hb := hb0 c2
            rw [if_neg (show ¬ (0 < z * p' - i + (q - p') * z ∧ 0 < b - 0) by omega), w3 (by omega)]
            have := hW1 (.inr c2)
            split <;> omega
          · have := hW2 (by omega)
            split <;> omega
      have ht' := cut_ok f ph.1 hh.rope s.1[N].f1 0 b f0 (by have := hh.ex.len; omega) (by omega) (Int.le_refl _) (by rw [hzh]; omega) aj (by rw [hzh]; omega) (by rw [hzh]; omega)
      rw [hzh] at ht'
      generalize cutP f ph.1 s.1[N].f1 0 b = pt at *
      have hlt' := ht'.len
      have hbase : Sp pt.1 s.1[N].f1 z (fun k c => LetR s.1 s.2 s.1[N].f1 k c) := Sp.ex ⟨f0, hin, hz, fun k c _ _ h => h⟩ hs (hh.ex.trans ht'.ex)
      have hqp : (q - p') * z = z * q - z * p' := by rw [Int.mul_comm, Int.mul_sub]
      have hzp' : z * p' ≤ z * q := Int.mul_le_mul_of_nonneg_left hpq' (by omega)
      have hge : 0 ≤ z * p' - i := by rw [← hpl]; split <;> omega
      have hm := times_ok ht'.rope hbase (by omega) (show 0 ≤ q - p' by omega) (by rw [hqp]; omega) (fun h2 => by rw [if_pos h2] at hw0; omega)
      generalize timesP pt.1 s.1[N].f1 (q - p') = pm at *
      have hlm := hm.len
      have hj1 := join_ok hm.rope ((hh.sp.ex hh.rope ht'.ex).ex ht'.rope hm.ex) hm.sp hge (by rw [hqp]; omega) (by rw [hqp]; omega) (fun p1 p2 => by rw [if_pos (show 0 < z * p' - i ∧ 0 < (q - p') * z from ⟨p1, p2⟩)] at hw0; omega)
      generalize joinP pm.1 ph.2 pm.2 = pk at *
      have hlk := hj1.len
      have hj2 := join_ok hj1.rope hj1.sp ((ht'.sp.ex ht'.rope hm.ex).ex hm.rope hj1.ex) (by rw [hqp]; omega) (by omega) (by rw [hqp]; omega) (fun p1 p2 => by rw [if_pos (show 0 < z * p' - i + (q - p') * z ∧ 0 < b - 0 from ⟨p1, p2⟩)] at hw0; omega)
      refine ⟨(((hh.ex.trans ht'.ex).trans hm.ex).trans hj1.ex).trans hj2.ex, hj2.rope, by have := hj2.len; omega, ?_⟩
      have hsp := hj2.sp
      rw [show z * p' - i + (q - p') * z + (b - 0) = j - i by rw [hqp]; omega] at hsp
      refine hsp.mono fun k c k0 k1 hk => ?_
      have hk' := hlt _ _ hk
      rw [hqp]
      by_cases d1 : k < z * p' - i
      · rw [if_pos (by omega), if_pos d1]
        have ha : a > 0 := by
          rcases Int.lt_or_le 0 a with h | h
          · exact h
          · rw [if_neg (by omega)] at hpl; omega
        rw [if_pos ha] at hpl
        rw [show i + k = z * p + (a + k) by omega, tm p (a + k) p0 (by omega) (by omega)] at hk'
        exact hk'
      · by_cases d2 : k < z * p' - i + (z * q - z * p')
        · rw [if_pos d2, if_neg d1]
          rw [show i + k = (k - (z * p' - i)) + z * p' by omega] at hk'
          rw [Int.tmod_eq_emod_of_nonneg (by omega)]
          have hzp0 : 0 ≤ z * p' := Int.mul_nonneg (by omega) hp0
          rw [Int.tmod_eq_emod_of_nonneg (by omega), Int.add_mul_emod_self_left] at hk'
          exact hk'
        · rw [if_neg d2]
          have hq0 : 0 ≤ q := by omega
          rw [show i + k = z * q + (k - (z * p' - i + (z * q - z * p'))) by omega, tm q _ hq0 (by omega) (by omega)] at hk'
          refine hh.ex.let hs ?_
          rw [Int.zero_add]; exact hk'
    | pair h0 ht f0 f1 g0 g1 e =>
      rw [hr, if_neg (by omega), if_neg (by omega)]
      have hin : s.1[N].f1 < (s.1.length : Int) := by omega
      have hin2 : s.1[N].f2 < (s.1.length : Int) := by omega
      have zp := hs.good.rd f0 (by rw [hs.len]; omega)
      have yp := hs.good.rd g0 (by rw [hs.len]; omega)
      generalize hz : rd s.2 s.1[N].f1 = z at *
      generalize hy : rd s.2 s.1[N].f2 = y at *
      have wa : WN s.1[N].f1 (min i z) (min j z) z + (WN s.1[N].f2 (max (i - z) 0) (max (j - z) 0) y + if 0 < min j z - min i z ∧ 0 < max (j - z) 0 - max (i - z) 0 then 1 else 0) ≤ WN (N : Int) i j v := by
        have a1 := W_all s.1[N].f1 (min i z) (min j z) z f0
        have b1 := W_all s.1[N].f2 (max (i - z) 0) (max (j - z) 0) y g0
        have a2 := @W_end s.1[N].f1 (min i z) (min j z) z
        have b2 := @W_end s.1[N].f2 (max (i - z) 0) (max (j - z) 0) y
        have a3 := @W_zero s.1[N].f1 (min i z) (min j z) z
        have b3 := @W_zero s.1[N].f2 (max (i - z) 0) (max (j - z) 0) y
        by_cases c1 : j ≤ z
        · have := b3 (by omega)
          rw [if_neg (by omega)]
          by_cases c2 : i = 0 <;> omega
        · by_cases c2 : z ≤ i
          · have := a3 (by omega)
            rw [if_neg (by omega)]
            by_cases c3 : j = v <;> omega
          · have := a2 (by omega)
            have := b2 (by omega)
            split <;> by_cases c3 : i = 0 <;> by_cases c4 : j = v <;> omega
      have ha := cut_ok f s hs s.1[N].f1 (min i z) (min j z) f0 hin (by omega) (by omega) (by rw [hz]; omega) (by omega) (by rw [hz]; omega) (by rw [hz]; omega)
      rw [hz] at ha
      generalize cutP f s s.1[N].f1 (min i z) (min j z) = pa at *
      have hxa := ha.ex.rdT g0 hin2
      have hya : rd pa.1.2 s.1[N].f2 = y := by rw [ha.ex.rd g0 (by rw [hs.len]; exact hin2)]; exact hy
      have hla := ha.len
      have hb := cut_ok f pa.1 ha.rope s.1[N].f2 (max (i - z) 0) (max (j - z) 0) g0 (by have := ha.ex.len; omega) (by omega) (by omega) (by rw [hya]; omega) (by omega) (by rw [hya]; omega) (by rw [hya]; omega)
      rw [hya] at hb
      generalize cutP f pa.1 s.1[N].f2 (max (i - z) 0) (max (j - z) 0) = pb at *
      have hlb := hb.len
      have hj := join_ok hb.rope (ha.sp.ex ha.rope hb.ex) hb.sp (by omega) (by omega) (by omega) (fun p1 p2 => by rw [if_pos (by omega)] at wa; omega)
      refine ⟨(ha.ex.trans hb.ex).trans hj.ex, hj.rope, ?_, ?_⟩
      · have := hj.len
        omega
      · have hd : min j z - min i z + (max (j - z) 0 - max (i - z) 0) = j - i := by omega
        have := hj.sp
        rw [hd] at this
        refine this.mono fun k c k0 k1 hk => ?_
        have hp := let_pair hk (by rw [hr]; exact h0) (by rw [hr]; exact ht)
        rw [hr, hz] at hp
        split
        · rw [if_pos (by omega)] at hp
          rw [show min i z + k = i + k by omega]; exact hp
        · rw [if_neg (by omega), w64 (by omega) (by omega)] at hp
          rw [show max (i - z) 0 + (k - (min j z - min i z)) = i + k - z by omega]
          exact ha.ex.let hs hp
theorem Rope.take {l : List S55} {o : List Int} (h : Rope l o) (n : Nat) : Rope (l.take n) (o.take n) := by
  refine ⟨by have := h.le; rw [List.length_take]; omega, by rw [List.length_take, List.length_take, h.len], fun v hv => h.good v (List.mem_of_mem_take hv), fun j x hx => ?_⟩
  rw [List.getElem?_take] at hx
  split at hx
  case isFalse => cases hx
  rename_i hj
  obtain ⟨v, h1, h2⟩ := h.node j x hx
  refine ⟨v, ?_, by rw [List.getElem?_take, if_pos hj]; exact h2⟩
  rw [List.take_take, Nat.min_eq_left (by omega)]; exact h1
theorem LetR.take {l : List S55} {o : List Int} (hr : Rope l o) {m : Nat} {n i c : Int} (h : LetR l o n i c) : n < m → LetR (l.take m) (o.take m) n i c := by
  have hx : ∀ n : Int, 0 ≤ n → n < m → rd_T55 (l.take m) n = rd_T55 l n := fun n h0 h1 => by
    unfold rd_T55
    rw [List.getD_eq_getElem?_getD, List.getD_eq_getElem?_getD, List.getElem?_take, if_pos (by omega)]
  have ho : ∀ n : Int, 0 ≤ n → n < m → rd (o.take m) n = rd o n := fun n h0 h1 => by
    unfold rd
    rw [List.getD_eq_getElem?_getD, List.getD_eq_getElem?_getD, List.getElem?_take, if_pos (by omega)]
  have hlt : ∀ n : Int, n < m → n < l.length → n < (l.take m).length := fun n h h' => by rw [List.length_take]; omega
  have hlo : ∀ n : Int, n < m → n < o.length → n < (o.take m).length := fun n h h' => by rw [List.length_take]; omega
  have hc : ∀ n : Int, 0 ≤ n → n < l.length → (rd_T55 l n).f0.toList = [] → (rd_T55 l n).f1 < n ∧ (¬ (rd_T55 l n).f3 > 0 → (rd_T55 l n).f2 < n) := fun n h0 h1 hw => by
    obtain ⟨N, rfl⟩ : ∃ N : Nat, n = N := ⟨n.toNat, by omega⟩
    have hx : l[N]? = some l[N] := List.getElem?_eq_getElem (by omega)
    obtain ⟨v, hv, v1, v2, hnode⟩ := hr.is hx
    have hrr := rdT_at hx
    rw [hrr] at hw ⊢
    have hw' := (toList_size _).1 hw
    cases hnode with
    | leaf h _ => exact absurd hw' h
    | times _ ht _ h1 _ _ => exact ⟨h1, fun h => absurd ht (by omega)⟩
    | pair _ ht _ h1 _ g1 _ => exact ⟨h1, fun _ => g1⟩
  induction h with
  | leaf n i h0 h1 hw i0 i1 =>
    intro hn
    have := LetR.leaf (l := l.take m) (o := o.take m) n i h0 (hlt n hn h1) (by rw [hx n h0 hn]; exact hw) i0 (by rw [hx n h0 hn]; exact i1)
    rw [hx n h0 hn] at this
    exact this
  | times n i c h0 h1 hw ht f0 f1 hz h ih =>
    intro hn
    have hcn := (hc n h0 h1 hw).1
    refine .times _ _ _ h0 (hlt n hn h1) (by rw [hx n h0 hn]; exact hw) (by rw [hx n h0 hn]; exact ht) (by rw [hx n h0 hn]; exact f0) (by rw [hx n h0 hn]; exact hlo _ (by omega) f1) (by rw [hx n h0 hn, ho _ f0 (by omega)]; exact hz) ?_
    rw [hx n h0 hn, ho _ f0 (by omega)]; exact ih (by omega)
  | left n i c h0 h1 hw ht f0 f1 hi h ih =>
    intro hn
    have hcn := (hc n h0 h1 hw).1
    refine .left _ _ _ h0 (hlt n hn h1) (by rw [hx n h0 hn]; exact hw) (by rw [hx n h0 hn]; exact ht) (by rw [hx n h0 hn]; exact f0) (by rw [hx n h0 hn]; exact hlo _ (by omega) f1) (by rw [hx n h0 hn, ho _ f0 (by omega)]; exact hi) ?_
    rw [hx n h0 hn]; exact ih (by omega)
  | right n i c h0 h1 hw ht f0 f1 hi h ih =>
    intro hn
    have hcn := hc n h0 h1 hw
    refine .right _ _ _ h0 (hlt n hn h1) (by rw [hx n h0 hn]; exact hw) (by rw [hx n h0 hn]; exact ht) (by rw [hx n h0 hn]; exact f0) (by rw [hx n h0 hn]; exact hlo _ (by omega) f1) (by rw [hx n h0 hn, ho _ f0 (by omega)]; exact hi) ?_
    rw [hx n h0 hn, ho _ f0 (by omega)]; exact ih (by have := hcn.2 ht; omega)
def sliceP (l : List S55) (o : List Int) (i j : Int) : List S55 :=
  (cutP (l.length + 1) (l, o) ((l.length : Int) - 1) i j).1.1.take ((cutP (l.length + 1) (l, o) ((l.length : Int) - 1) i j).2 + 1).toNat
theorem slice_ok {l : List S55} {o : List Int} (h : Rope l o) (h0 : 0 < l.length) (h4 : l.length ≤ 400) {i j : Int} (i0 : 0 ≤ i) (ij : i < j) (hj : j ≤ rd o ((l.length : Int) - 1)) :
    ∃ o', Rope (sliceP l o i j) o' ∧ 0 < (sliceP l o i j).length ∧ (sliceP l o i j).length ≤ 8 * l.length + 8 ∧ rd o' (((sliceP l o i j).length : Int) - 1) = j - i ∧
      ∀ k c, 0 ≤ k → k < j - i → LetR l o ((l.length : Int) - 1) (i + k) c → LetR (sliceP l o i j) o' (((sliceP l o i j).length : Int) - 1) k c := by
  have hW := W_all ((l.length : Int) - 1) i j (rd o ((l.length : Int) - 1)) (by omega)
  have hc := cut_ok (l.length + 1) (l, o) h ((l.length : Int) - 1) i j (by omega) (by show _ < (l.length : Int); omega) (by omega) i0 (by show i ≤ rd o _; omega) (by omega) hj (by show l.length + WN _ i j (rd o _) ≤ 4000; omega)
  unfold sliceP
  generalize cutP (l.length + 1) (l, o) ((l.length : Int) - 1) i j = p at *
  have hl : p.1.1.length ≤ l.length + WN ((l.length : Int) - 1) i j (rd o ((l.length : Int) - 1)) := hc.len
  have hs := hc.sp
  unfold SpO at hs
  rw [if_neg (by omega)] at hs
  have r0 := hs.r0
  have r1 := hs.r1
  have hlen : (p.1.1.take (p.2 + 1).toNat).length = (p.2 + 1).toNat := by rw [List.length_take]; omega
  have hlast : ((p.1.1.take (p.2 + 1).toNat).length : Int) - 1 = p.2 := by rw [hlen]; omega
  refine ⟨p.1.2.take (p.2 + 1).toNat, hc.rope.take _, by rw [hlen]; omega, by rw [hlen]; omega, ?_, fun k c k0 k1 hk => ?_⟩
  · rw [hlast, rd_take r0 (by rw [List.length_take, hc.rope.len]; omega)]
    exact hs.len
  · rw [hlast]
    exact (hs.spell k c k0 k1 hk).take hc.rope (by omega)
end Go.Proofs.YtehbekgmemebjaaDoorEv
