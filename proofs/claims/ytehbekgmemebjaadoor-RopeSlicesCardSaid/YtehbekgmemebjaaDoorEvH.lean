import Derived.Test.YtehbekgmemebjaaDoorEvF
namespace Go.Proofs.YtehbekgmemebjaaDoorEv
open Go
set_option linter.unusedVariables false
set_option linter.unusedSimpArgs false
variable {P : Program} {GL : List Nat} {ι : Inj} {H : Hp} {w : World}
theorem sound_convSB {s d e : TypeId} {b : ByteArray} (hs : P.underlying s = some .string) (hd : P.underlying d = some (.slice e)) (he : P.underlying e = some (.int .u8)) (hw : WR GL ι H w) :
    Step GL ι H w (.slice (some ⟨H.size, 0, none⟩) b.size b.size) (H.new (.cells (strB b) ⟨1, e, false⟩ false)) ((do pure (.value (← convert s d (.string b))) : Sem Next).run P w) := by
  obtain ⟨cap, hcap, hge⟩ : ∃ cap, (Question.appendCap b.size 0 e).cut (w.tape w.drawn (.appendCap b.size 0 e)) = cap ∧ b.size ≤ cap := ⟨_, rfl, by simp [Question.cut]⟩
  have hsz : (b.data.map (fun x => Value.int .u8 x.toNat) ++ Array.replicate (cap - b.size) (Value.int .u8 0)).size = cap := by
    have h0 : b.data.size = b.size := rfl
    simp only [Array.size_append, Array.size_map, Array.size_replicate]
    omega
  obtain ⟨a1, a2, a3⟩ := step_cells hw (strB b) (b.data.map (fun x => Value.int .u8 x.toNat) ++ Array.replicate (cap - b.size) (Value.int .u8 0)) e ⟨1, e, false⟩ { w with drawn := w.drawn + 1 } rfl rfl rfl rfl (by
      rw [hsz]
      have h0 : (strB b).length = b.size := by simp only [strB, List.length_map]; rfl
      omega) (fun j v hj => by
    refine ⟨v, ?_, ?_⟩
    · rw [Array.getElem?_append]
      have hlt := (List.getElem?_eq_some_iff.1 hj).1
      rw [if_pos (by simpa [strB] using hlt)]
      simpa [strB] using hj
    · simp only [strB, List.getElem?_map, Option.map_eq_some_iff] at hj
      obtain ⟨x, _, rfl⟩ := hj
      exact .int _ _) (cap, cap + 1) ⟨fun x hx => by rw [hsz] at hx; simp; omega, fun h => (by cases h), rfl, fun h => (by cases h), fun _ h => (by cases h)⟩ _ rfl
  refine ⟨.slice (some ⟨w.heap.size, 0, none⟩) b.size cap, _, _, .inl ?_, a2, .slice _ _ _ _ _ _ _ _ (add_same _ _ _) (by simp) (Nat.le_refl _) (.inr ⟨by simp, by simp, hge, fun _ => by simp only [hsz]; omega⟩) (fun _ => by simp), a1, a3, by rw [Hp.size_new]; omega⟩
  have hf : (Question.appendCap b.size 0 e).forced = false := rfl
  simp only [convert, Sem.run_bind, run_underlying hs, run_underlying hd, run_underlying he, Result.andThen_ok, Conv.stringToBytes, choose, Sem.run, hf, Bool.false_eq_true, if_false, hcap, newRow, newObj, markStringish, shape, World.shape?, freeze, World.freeze]
  simp [hsz, Sem.run, Array.modify, Array.modifyM, World.freeze]
  apply Array.ext'
  simp [List.set_append]
theorem sound_mkslice {t e : TypeId} {z : Array Value} {i : TypeInfo} {l c : Int} (hu : P.underlying t = some (.slice e)) (hi : P.info? e = some i) (hz : zeroOf P e = some z) (h0 : 0 ≤ l) (h1 : l ≤ c) (h2 : c * i.bytes ≤ 140737488355328) (h3 : c ≤ 140737488355328) (hw : WR GL ι H w) :
    Step GL ι H w (.slice (some ⟨H.size, 0, none⟩) l.toNat c.toNat) (H.new (.cells (bCells z (c.toNat * i.size)).toList ⟨0, e, true⟩ false)) ((do pure (.value (← Instr.makeSlice t (.int .i64 l) (.int .i64 c))) : Sem Next).run P w) := by
  obtain ⟨zv, hzr, hc, hf, _⟩ := zeroOf_run hz
  obtain ⟨i', hi', hsz⟩ := zeroOf_size hz
  rw [hi] at hi'; cases hi'
  obtain ⟨hb, hbc⟩ := bCells_VA (ι := ι) hf (c.toNat * i.size) (by
    rcases Nat.eq_zero_or_pos i.size with h0 | h0
    · left; simp [h0]
    · right; omega)
  obtain ⟨a1, a2, a3⟩ := step_cells hw (bCells z (c.toNat * i.size)).toList (bCells z (c.toNat * i.size)) e ⟨0, e, true⟩ w rfl rfl rfl rfl (by simp) (fun j v hj => ⟨v, by simpa using hj, hb.2 j v v (by simpa using hj) (by simpa using hj)⟩) (0, 0) ⟨fun x _ => by simp, fun _ => rfl, rfl, fun _ => by simp, fun h => absurd rfl h⟩ _ rfl
  refine ⟨.slice (some ⟨w.heap.size, 0, none⟩) l.toNat c.toNat, _, _, .inl ?_, a2, .slice _ _ _ _ _ _ _ _ (add_same _ _ _) (by simp) (by omega) (.inl ⟨.inl rfl, rfl⟩) (fun _ => by simp), a1, a3, by rw [Hp.size_new]; omega⟩
  have w1 : IntKind.i64.wrap l = l := by simp [IntKind.wrap, IntKind.bits, IntKind.signed]; omega
  have w2 : IntKind.i64.wrap c = c := by simp [IntKind.wrap, IntKind.bits, IntKind.signed]; omega
  have t1 : ∀ n : Int, n = c → (decide (n < 0) || decide (i.bytes * n > 2 ^ 48)) = false := by
    rintro n rfl
    have : (i.bytes : Int) * n = n * i.bytes := Int.mul_comm _ _
    simp only [Bool.or_eq_false_iff, decide_eq_false_iff_not]
    rw [this]
    constructor <;> omega
  have hcells : bCells z (c.toNat * i.size) = (Array.range (c.toNat * i.size)).map ((if c.toNat * i.size = 0 then #[] else zv.cells)[· % (if c.toNat * i.size = 0 then (#[] : Array Value) else zv.cells).size]!) := by
    by_cases h0 : c.toNat * i.size = 0
    · have e0 : Array.range 0 = #[] := Array.eq_empty_of_size_eq_zero (by simp)
      rw [h0]
      simp only [bCells, e0, Array.map_empty]
    · simp only [if_neg h0, hc, bCells]
  have hask : ∀ n, (askRoom n).run P w = .ok () w := by
    intro n; unfold askRoom; split <;> rfl
  have hcond : ¬ (((c < 0 ∨ (i.bytes : Int) * c > 2 ^ 48) ∨ l < 0) ∨ l > c) := by
    have h5 : (i.bytes : Int) * c = c * i.bytes := Int.mul_comm _ _
    rw [h5]
    omega
  simp only [Instr.makeSlice, Sem.run_bind, run_underlying hu, Result.andThen_ok, asInt, asIntOf, Sem.run_pure, typeInfo, run_program, hi, w1, w2, sizeOf]
  simp only [Bool.or_eq_true, decide_eq_true_eq]
  rw [if_neg hcond]
  simp only [Sem.run_bind, hask, run_program, Result.andThen_ok, hi, Sem.run_pure]
  by_cases h0 : c.toNat * i.size = 0
  · simp only [if_pos h0] at hcells
    simp only [if_pos h0, Sem.run_bind, Sem.run_pure, Result.andThen_ok, newRow, newObj, Sem.run, hcells]
  · simp only [if_neg h0] at hcells
    simp only [if_neg h0, Sem.run_bind, hzr, Sem.run_pure, Result.andThen_ok, newRow, newObj, Sem.run, hcells]
theorem boundO_run {y z : Nat} {v v' : Value} {n : Nat} {code : BoundsCode} (hv : VR ι v v') (h : boundO 0 y v = some n) (hyz : y ≤ z) : (Instr.sliceBound v' z code).run P w = .ok n w ∧ n ≤ y := by
  unfold boundO at h
  split at h
  · rename_i k i
    split at h
    · rename_i hc
      cases h; cases hv
      refine ⟨?_, by omega⟩
      have : 0 ≤ i ∧ i ≤ (z : Int) := by omega
      simp only [Instr.sliceBound, asIntOf, Sem.run_bind, Sem.run_pure, Result.andThen_ok, if_pos this]
    · cases h
  · cases h
def VO (ι : Inj) : Option Value → Option Value → Prop
  | none, none => True
  | some v, some v' => VR ι v v'
  | _, _ => False
theorem boundsO_run {len k k' : Nat} {lo hi mx lo' hi' mx' : Option Value} {l h m : Nat} {isSlice : Bool} (h1 : VO ι lo lo') (h2 : VO ι hi hi') (h3 : VO ι mx mx') (hk : k ≤ k') (hlen : len ≤ k) (hb : boundsO len k lo hi mx = some (l, h, m)) :
    ∃ m', (Instr.sliceBounds isSlice len k' lo' hi' mx').run P w = .ok (l, h, m') w ∧ l ≤ h ∧ h ≤ m ∧ m ≤ k ∧ (mx.isSome = true → m' = m) ∧ (mx = none → m = k ∧ m' = k') ∧ m ≤ m' ∧ m' ≤ k' := by
  unfold boundsO at hb
  simp only [Option.bind_eq_some_iff] at hb
  obtain ⟨m0, hm, h0, hh, l0, hl, e⟩ := hb
  simp only [Option.some.injEq, Prod.mk.injEq] at e
  obtain ⟨rfl, rfl, rfl⟩ := e
  cases mx with
  | none =>
    cases mx' with
    | some _ => exact h3.elim
    | none =>
      simp only [optBound, Option.some.injEq] at hm
      subst hm
      simp only [Option.isSome_none, Bool.and_false, Bool.false_eq_true, if_false] at hh
      have hH : ∃ code, ((match hi' with | some v => Instr.sliceBound v k' code | none => pure len) : Sem Nat).run P w = .ok h0 w ∧ code = (if isSlice then .sliceAcap else .sliceAlen) ∧ h0 ≤ k := by
        refine ⟨_, ?_, rfl, ?_⟩
        · cases hi with
          | none => cases hi' with
            | some _ => exact h2.elim
            | none => simp only [optBound, Option.some.injEq] at hh; subst hh; rfl
          | some v => cases hi' with
            | none => exact h2.elim
            | some v' => exact (boundO_run h2 hh hk).1
        · cases hi with
          | none => simp only [optBound, Option.some.injEq] at hh; omega
          | some v => cases hi' with
            | none => exact h2.elim
            | some v' => exact (boundO_run (P := P) (w := w) (code := .index) h2 hh hk).2
      obtain ⟨code, hH1, rfl, hH2⟩ := hH
      have hL : ((match lo' with | some v => Instr.sliceBound v h0 .sliceB | none => pure 0) : Sem Nat).run P w = .ok l0 w ∧ l0 ≤ h0 := by
        cases lo with
        | none => cases lo' with
          | some _ => exact h1.elim
          | none => simp only [optBound, Option.some.injEq] at hl; subst hl; exact ⟨rfl, Nat.zero_le _⟩
        | some v => cases lo' with
          | none => exact h1.elim
          | some v' => exact boundO_run h1 hl (Nat.le_refl _)
      refine ⟨k', ?_, hL.2, hH2, Nat.le_refl _, (fun h => by cases h), (fun _ => ⟨rfl, rfl⟩), hk, Nat.le_refl _⟩
      cases hi' <;> cases lo' <;> simp only [Instr.sliceBounds, Sem.run_bind, Sem.run_pure, Result.andThen_ok, Option.isSome_none, Bool.false_eq_true, if_false] at hH1 hL ⊢ <;> simp_all
  | some mv =>
    cases mx' with
    | none => exact h3.elim
    | some mv' =>
      have hM := boundO_run (P := P) (w := w) (code := if isSlice then .slice3Acap else .slice3Alen) h3 hm hk
      cases hi with
      | none => simp at hh
      | some v => cases hi' with
        | none => exact h2.elim
        | some v' =>
          simp only [Option.isNone_some, Bool.false_and, Bool.false_eq_true, if_false] at hh
          have hH := boundO_run (P := P) (w := w) (code := .slice3B) h2 hh (Nat.le_refl _)
          have hL : ((match lo' with | some v => Instr.sliceBound v h0 .slice3C | none => pure 0) : Sem Nat).run P w = .ok l0 w ∧ l0 ≤ h0 := by
            cases lo with
            | none => cases lo' with
              | some _ => exact h1.elim
              | none => simp only [optBound, Option.some.injEq] at hl; subst hl; exact ⟨rfl, Nat.zero_le _⟩
            | some v => cases lo' with
              | none => exact h1.elim
              | some v' => exact boundO_run h1 hl (Nat.le_refl _)
          refine ⟨m0, ?_, hL.2, hH.2, hM.2, (fun _ => rfl), (fun h => by cases h), Nat.le_refl _, by omega⟩
          cases lo' <;> simp only [Instr.sliceBounds, Sem.run_bind, Sem.run_pure, Result.andThen_ok, hM.1, hH.1, Option.isSome_some, if_true] at hL ⊢ <;> simp_all
theorem obj_u (hw : WR GL ι H w) {b : Nat} {i : BI} (hb : ι b = some i) {cs : List Value} {u : UT} {ro : Bool} (hg : H.get b = some (.cells cs u ro)) : i.u = u.u ∧ i.ro = ro := by
  obtain ⟨o, hg', hk⟩ := hw.obj b i hb
  rw [hg] at hg'; cases hg'
  exact ⟨hk.1.1, hk.2.1⟩
theorem sound_slc {t e : TypeId} {size : Nat} {x x' v : Value} {lo hi mx lo' hi' mx' : Option Value} (hu : P.underlying t = some (.slice e)) (hs : sizeQ P e = some size) (h0 : size ≠ 0) (hx : VR ι x x') (h1 : VO ι lo lo') (h2 : VO ι hi hi') (h3 : VO ι mx mx') (hw : WR GL ι H w) (h : sliceO H size x lo hi mx = some v) :
    ∃ v', (Instr.sliceAt t x' lo' hi' mx').run P w = .ok v' w ∧ VR ι v v' := by
  have e0 : (Instr.sliceAt t x' lo' hi' mx').run P w = (Instr.slice t x' lo' hi' mx').run P w := by
    simp only [Instr.sliceAt, Sem.run_bind, run_underlying hu, Result.andThen_ok]
  rw [e0]
  unfold sliceO at h
  split at h
  · cases hx
    simp only [Option.bind_eq_bind, Option.bind_eq_some_iff] at h
    obtain ⟨⟨l, hh, m⟩, hb, hv⟩ := h
    cases hv
    obtain ⟨m', hr, c1, c2, c3, c4, c5, c6, c7⟩ := boundsO_run (P := P) (w := w) (isSlice := true) h1 h2 h3 (Nat.le_refl 0) (Nat.le_refl 0) hb
    refine ⟨.slice none 0 0, ?_, .snil⟩
    have q1 : l = 0 := by omega
    have q2 : hh = 0 := by omega
    have q3 : m' = 0 := by omega
    subst q1; subst q2; subst q3
    simp only [Instr.slice, Sem.run_bind, run_underlying hu, Result.andThen_ok, hr, sizeQ_run hs, Sem.run_pure, if_true]
  · rename_i b o sp n k
    cases hx with
    | arg _ _ _ A k' hnk ha =>
      simp only [Option.bind_eq_bind, Option.bind_eq_some_iff] at h
      obtain ⟨⟨l, hh, m⟩, hb, hv⟩ := h
      simp only [if_true] at hv
      split at hv
      · cases hv
      rename_i hc0
      cases hv
      simp only [Bool.or_eq_true, beq_iff_eq, not_or, Bool.not_eq_true, Option.isSome_eq_false_iff, Option.isNone_iff_eq_none] at hc0
      obtain ⟨hmx, hn0⟩ := hc0
      subst hmx
      obtain ⟨i, hi', rfl⟩ := ha hn0
      obtain ⟨m', hr, c1, c2, c3, c4, c5, c6, c7⟩ := boundsO_run (P := P) (w := w) (isSlice := true) h1 h2 h3 hnk (Nat.le_refl _) hb
      obtain ⟨r1, r2⟩ := c5 rfl
      refine ⟨.slice (if m' = l then some ⟨i.c, i.d + o, none⟩ else (some (⟨i.c, i.d + o, none⟩ : Addr)).map (·.add (l * size))) (hh - l) (m' - l), ?_, ?_⟩
      · simp only [Instr.slice, Sem.run_bind, run_underlying hu, Result.andThen_ok, hr, sizeQ_run hs, Sem.run_pure]
      · refine .arg _ _ _ _ _ (by omega) (fun h0 => ⟨i, hi', ?_⟩)
        rw [if_neg (by omega)]
        simp only [Option.map_some, add_plain', Nat.add_assoc]
    | slice _ _ _ _ _ i a k' hi' hns hnk hk ha =>
      simp only [Option.bind_eq_bind, Option.bind_eq_some_iff] at h
      obtain ⟨⟨l, hh, m⟩, hb, hv⟩ := h
      have hkk : k ≤ k' := by rcases hk with hk | hk <;> omega
      obtain ⟨m', hr, c1, c2, c3, c4, c5, c6, c7⟩ := boundsO_run (P := P) (w := w) (isSlice := true) h1 h2 h3 hkk hnk hb
      rw [if_neg hns] at hv
      split at hv
      · rename_i cs u ro hg
        split at hv
        · rename_i hus
          cases hv
          obtain ⟨iu, iro⟩ := obj_u hw hi' hg
          refine ⟨.slice (if m' = l then some a else (some a).map (·.add (l * size))) (hh - l) (m' - l), ?_, ?_⟩
          · simp only [Instr.slice, Sem.run_bind, run_underlying hu, Result.andThen_ok, hr, sizeQ_run hs, Sem.run_pure]
          · have hA : ∃ a2, (if m' = l then some a else (some a).map (·.add (l * size))) = some a2 ∧ (m' - l ≠ 0 ∨ o + l * size = 0 → a2 = ⟨i.c, i.d + (o + l * size), none⟩) := by
              by_cases hml : m' = l
              · exact ⟨a, by rw [if_pos hml], fun h => by
                  have hz : o + l * size = 0 := h.resolve_left (by omega)
                  rw [ha (.inr (by omega)), hz]
                  have : o = 0 := by omega
                  rw [this]⟩
              · refine ⟨a.add (l * size), by rw [if_neg hml]; rfl, fun _ => ?_⟩
                rw [ha (.inl (by omega)), add_plain', Nat.add_assoc]
            obtain ⟨a2, ha2, ha3⟩ := hA
            rw [ha2]
            refine .slice _ _ _ _ _ i a2 _ hi' (by split <;> simp_all) (by omega) ?_ ha3
            cases hmx : mx with
            | some mv =>
              left
              exact ⟨.inr (by simp), by rw [c4 (by rw [hmx]; rfl)]⟩
            | none =>
              obtain ⟨r1, r2⟩ := c5 hmx
              subst r1; subst r2
              simp only [Option.isSome_none, Bool.false_eq_true, if_false]
              rcases hk with hk | ⟨k1, k2, k3, k4⟩
              · left; exact ⟨hk.1, by omega⟩
              · right
                refine ⟨k1, k2, by omega, fun hro => ?_⟩
                have := k4 hro
                have hue : i.u = size := by rw [iu]; rcases hus with hus | hus
                                            · rw [iu] at k1; exact absurd hus k1
                                            · exact hus
                rw [hue] at this ⊢
                have e1 : l * size + (m' - l) * size = m' * size := by
                  rw [← Nat.add_mul]; congr 1; omega
                omega
        · cases hv
      · cases hv
  · cases h
end Go.Proofs.YtehbekgmemebjaaDoorEv
namespace Go.Proofs.YtehbekgmemebjaaDoorEv
open Go
set_option linter.unusedVariables false
set_option linter.unusedSimpArgs false
variable {P : Program} {GL : List Nat} {ι : Inj} {H : Hp} {w : World}
theorem sound_slcS {t : TypeId} {s : ByteArray} {lo hi lo' hi' : Option Value} {l h m : Nat} (hu : P.underlying t = some .string) (h1 : VO ι lo lo') (h2 : VO ι hi hi') (hb : boundsO s.size s.size lo hi none = some (l, h, m)) :
    (Instr.sliceAt t (.string s) lo' hi' none).run P w = .ok (.string (s.extract l h)) w := by
  have h3 : VO ι none none := True.intro
  obtain ⟨m', hr, _⟩ := boundsO_run (P := P) (w := w) (isSlice := false) h1 h2 h3 (Nat.le_refl _) (Nat.le_refl _) hb
  simp only [Instr.sliceAt, Sem.run_bind, run_underlying hu, Result.andThen_ok, Instr.slice, Option.isSome_none, Bool.false_eq_true, if_false, hr, Sem.run_pure]
theorem sound_slcA {t e : TypeId} {n size : Nat} {b o : Nat} {x' : Value} {lo hi mx lo' hi' mx' : Option Value} {l h m : Nat} {cs : List Value} {uty : Nat} {uz ro : Bool} (hu : P.underlying t = some (.array n e)) (hs : sizeQ P e = some size) (hx : VR ι (.pointer (some ⟨b, o, none⟩)) x') (h1 : VO ι lo lo') (h2 : VO ι hi hi') (h3 : VO ι mx mx') (hw : WR GL ι H w)
    (hg : H.get b = some (.cells cs ⟨0, uty, uz⟩ ro)) (hb : boundsO n n lo hi mx = some (l, h, m)) : ∃ v', (Instr.sliceAt t x' lo' hi' mx').run P w = .ok v' w ∧ VR ι (.slice (some ⟨b, o + l * size, none⟩) (h - l) (m - l)) v' := by
  cases hx with
  | ptr _ _ i hi' =>
    obtain ⟨m', hr, c1, c2, c3, c4, c5, c6, c7⟩ := boundsO_run (P := P) (w := w) (isSlice := false) h1 h2 h3 (Nat.le_refl _) (Nat.le_refl _) hb
    have hmm : m' = m := by
      cases hmx : mx with
      | none => obtain ⟨r1, r2⟩ := c5 hmx; omega
      | some _ => exact c4 (by rw [hmx]; rfl)
    subst hmm
    refine ⟨.slice (some (if m' = l then ⟨i.c, i.d + o, none⟩ else (⟨i.c, i.d + o, none⟩ : Addr).add (l * size))) (h - l) (m' - l), ?_, ?_⟩
    · simp only [Instr.sliceAt, Sem.run_bind, run_underlying hu, Result.andThen_ok, Instr.sureAddr, Sem.run_pure, hr, sizeQ_run hs]
    · refine .slice _ _ _ _ _ i _ _ hi' (by simp) (by omega) (.inl ⟨.inl (obj_u hw hi' hg).1, rfl⟩) (fun hne => ?_)
      by_cases hml : m' = l
      · rw [if_pos hml]
        have hz : o + l * size = 0 := hne.resolve_left (by omega)
        rw [hz]
        have : o = 0 := by omega
        rw [this]
      · rw [if_neg hml, add_plain', Nat.add_assoc]
theorem sound_off {t : TypeId} {fs : Array Field} {f : Nat} {fd : Field} {k : Nat} {b o : Nat} {x' : Value} (hu : P.underlying t = some (.struct fs)) (hf : fs[f]? = some fd) (hs : sizeQ P fd.type = some (k + 1)) (hx : VR ι (.pointer (some ⟨b, o, none⟩)) x') :
    ∃ v', (Instr.fieldAt t x' f).run P w = .ok v' w ∧ VR ι (.pointer (some ⟨b, o + fd.offset, none⟩)) v' := by
  cases hx with
  | ptr _ _ i hi =>
    refine ⟨.pointer (some ⟨i.c, i.d + (o + fd.offset), none⟩), ?_, .ptr _ _ _ hi⟩
    simp only [Instr.fieldAt, Sem.run_bind, run_underlying hu, Result.andThen_ok, hf, Instr.sureAddr, Sem.run_pure, fieldPlace, sizeQ_run hs]
    simp only [Nat.add_one_ne_zero, if_false, Sem.run_pure, Result.andThen_ok, add_plain', Nat.add_assoc]
theorem extract_VA {cs cs' : Array Value} (h : VA ι cs cs') (a b : Nat) : VA ι (cs.extract a b) (cs'.extract a b) := by
  refine ⟨by simp [h.1], fun j v v' e e' => ?_⟩
  rw [Array.getElem?_extract] at e e'
  rw [← h.1] at e'
  split at e
  · rw [if_pos (by assumption)] at e'
    exact h.2 _ v v' e e'
  · cases e
theorem part_run {t : TypeId} {agg : Bool} {n o : Nat} {cs cs' : Array Value} {v : Value} (ha : aggQ P t = some agg) (hs : sizeQ P t = some n) (h : VA ι cs cs') (hv : (if agg then (if o + n ≤ cs.size then some (.agg (cs.extract o (o + n))) else none) else cs[o]?) = some v) :
    ∃ v', (part t cs' o).run P w = .ok v' w ∧ VR ι v v' := by
  cases agg with
  | true =>
    simp only [if_true] at hv
    split at hv
    · cases hv
      have := extract_VA h o (o + n)
      exact ⟨.agg (cs'.extract o (o + n)), by simp only [part, Sem.run_bind, aggQ_run ha, Result.andThen_ok, if_true, sizeQ_run hs, Sem.run_pure], .agg _ _ this.1 this.2⟩
    · cases hv
  | false =>
    simp only [Bool.false_eq_true, if_false] at hv
    have hlt : o < cs'.size := by rw [← h.1]; exact (Array.getElem?_eq_some_iff.1 hv).1
    refine ⟨cs'[o], ?_, h.2 o v _ hv (by simp [hlt])⟩
    simp only [part, Sem.run_bind, aggQ_run ha, Result.andThen_ok, Bool.false_eq_true, if_false, Array.getElem?_eq_getElem hlt, Sem.run_pure]
theorem sound_ixS {t e : TypeId} {size : Nat} {b o : Nat} {sp : Option Nat} {n k : Nat} {x' i' : Value} {kd : IntKind} {j : Int} (hu : P.underlying t = some (.slice e)) (hs : sizeQ P e = some size) (hx : VR ι (.slice (some ⟨b, o, sp⟩) n k) x') (hi : VR ι (.int kd j) i') (hj : 0 ≤ j ∧ j < n) :
    ∃ v', (Instr.indexAt t x' i').run P w = .ok v' w ∧ VR ι (.pointer (some ⟨b, o + j.toNat * size, none⟩)) v' := by
  cases hi
  cases hx with
  | arg _ _ _ A k' hnk ha =>
    obtain ⟨i, hi', rfl⟩ := ha (by omega)
    refine ⟨.pointer (some ⟨i.c, i.d + (o + j.toNat * size), none⟩), ?_, .ptr _ _ _ hi'⟩
    by_cases hn : n ≤ 1
    · simp only [Instr.indexAt, asIntOf, Sem.run_bind, Sem.run_pure, Result.andThen_ok, run_underlying hu, hn, decide_true, Bool.true_and, if_pos hj, sizeQ_run hs, add_plain', Nat.add_assoc]
    · simp only [Instr.indexAt, asIntOf, Sem.run_bind, Sem.run_pure, Result.andThen_ok, run_underlying hu, hn, decide_false, Bool.false_and, if_pos hj, sizeQ_run hs, add_plain', Nat.add_assoc]
  | slice _ _ _ _ _ i a k' hi' hns hnk hk ha =>
    have hk0 : k' ≠ 0 := by rcases hk with hk | hk <;> omega
    refine ⟨.pointer (some ⟨i.c, i.d + (o + j.toNat * size), none⟩), ?_, .ptr _ _ _ hi'⟩
    by_cases hn : n ≤ 1
    · simp only [Instr.indexAt, asIntOf, Sem.run_bind, Sem.run_pure, Result.andThen_ok, run_underlying hu, hn, decide_true, Bool.true_and, if_pos hj, sizeQ_run hs, ha (.inl hk0), add_plain', Nat.add_assoc]
    · simp only [Instr.indexAt, asIntOf, Sem.run_bind, Sem.run_pure, Result.andThen_ok, run_underlying hu, hn, decide_false, Bool.false_and, if_pos hj, sizeQ_run hs, ha (.inl hk0), add_plain', Nat.add_assoc]
theorem sound_ixA {t e : TypeId} {size : Nat} {b o n : Nat} {x' i' : Value} {kd : IntKind} {j : Int} (hu : P.underlying t = some (.array n e)) (hs : sizeQ P e = some size) (hx : VR ι (.pointer (some ⟨b, o, none⟩)) x') (hi : VR ι (.int kd j) i') (hj : 0 ≤ j ∧ j < n) :
    ∃ v', (Instr.indexAt t x' i').run P w = .ok v' w ∧ VR ι (.pointer (some ⟨b, o + j.toNat * size, none⟩)) v' := by
  cases hi
  cases hx with
  | ptr _ _ i hi' =>
    refine ⟨.pointer (some ⟨i.c, i.d + (o + j.toNat * size), none⟩), ?_, .ptr _ _ _ hi'⟩
    by_cases hn : n ≤ 1
    · simp only [Instr.indexAt, asIntOf, Sem.run_bind, Sem.run_pure, Result.andThen_ok, run_underlying hu, Instr.sureAddr, hn, decide_true, Bool.true_and, if_pos hj, sizeQ_run hs, add_plain', Nat.add_assoc]
    · simp only [Instr.indexAt, asIntOf, Sem.run_bind, Sem.run_pure, Result.andThen_ok, run_underlying hu, Instr.sureAddr, hn, decide_false, Bool.false_and, if_pos hj, sizeQ_run hs, add_plain', Nat.add_assoc]
theorem sound_ixStr {t : TypeId} {s : ByteArray} {i' : Value} {kd : IntKind} {j : Int} {x : UInt8} (hu : P.underlying t = some .string) (hi : VR ι (.int kd j) i') (hj : 0 ≤ j) (hx : s[j.toNat]? = some x) :
    (Instr.index t (.string s) i').run P w = .ok (.int .u8 x.toNat) w := by
  cases hi
  simp only [Instr.index, asIntOf, Sem.run_bind, Sem.run_pure, Result.andThen_ok, run_underlying hu, if_pos hj, hx]
theorem sound_ixAgg {t e : TypeId} {agg : Bool} {n size : Nat} {cs : Array Value} {x' i' v : Value} {kd : IntKind} {j : Int} (hu : P.underlying t = some (.array n e)) (ha : aggQ P e = some agg) (hs : sizeQ P e = some size) (hx : VR ι (.agg cs) x') (hi : VR ι (.int kd j) i') (hj : 0 ≤ j ∧ j < n)
    (hv : (if agg then (if j.toNat * size + size ≤ cs.size then some (.agg (cs.extract (j.toNat * size) (j.toNat * size + size))) else none) else cs[j.toNat * size]?) = some v) :
    ∃ v', (Instr.index t x' i').run P w = .ok v' w ∧ VR ι v v' := by
  cases hi
  cases hx with
  | agg _ cs' hsz hA =>
    obtain ⟨v', hr, hvv⟩ := part_run (P := P) (w := w) ha hs (⟨hsz, hA⟩ : VA ι cs cs') hv
    exact ⟨v', by simp only [Instr.index, asIntOf, Sem.run_bind, Sem.run_pure, Result.andThen_ok, run_underlying hu, if_pos hj, sizeQ_run hs, hr], hvv⟩
theorem sound_field {t : TypeId} {fs : Array Field} {f : Nat} {fd : Field} {agg : Bool} {n : Nat} {cs : Array Value} {x' v : Value} (hu : P.underlying t = some (.struct fs)) (hf : fs[f]? = some fd) (ha : aggQ P fd.type = some agg) (hs : sizeQ P fd.type = some n) (hx : VR ι (.agg cs) x')
    (hv : (if agg then (if fd.offset + n ≤ cs.size then some (.agg (cs.extract fd.offset (fd.offset + n))) else none) else cs[fd.offset]?) = some v) :
    ∃ v', (Instr.field t x' f).run P w = .ok v' w ∧ VR ι v v' := by
  cases hx with
  | agg _ cs' hsz hA =>
    obtain ⟨v', hr, hvv⟩ := part_run (P := P) (w := w) ha hs (⟨hsz, hA⟩ : VA ι cs cs') hv
    exact ⟨v', by simp only [Instr.field, Sem.run_bind, Sem.run_pure, Result.andThen_ok, run_underlying hu, hf, asAgg, hr], hvv⟩
theorem keyIs_VR {kd : Nat} {k k' : Value} (h : VR ι k k') (hk : keyIs kd k = true) : k' = k := by
  cases h <;> first
    | rfl
    | (cases kd with
       | zero => simp [keyIs] at hk
       | succ kd => cases kd with
         | zero => simp [keyIs] at hk
         | succ kd => cases kd <;> simp [keyIs] at hk)
theorem keyIs_O {kd : Nat} {k : Value} (hk : keyIs kd k = true) : keyO k = true := by
  unfold keyIs at hk
  split at hk <;> first | rfl | cases hk
theorem checkKey_run {t : TypeId} {kd : Nat} {k : Value} {b : Bool} (ht : keyKind P t = some kd) (hk : keyIs kd k = true) : (Instr.checkKey b 10000 t k).run P w = .ok () w := by
  show (Instr.checkKey b (9999 + 1) t k).run P w = .ok () w
  unfold Instr.checkKey
  unfold keyKind at ht
  split at ht
  all_goals first | cases ht | skip
  all_goals (rename_i hu; simp only [Sem.run_bind, run_underlying hu, Result.andThen_ok]; cases k <;> first | rfl | simp [keyIs] at hk)
theorem findNow_run {d : TypeDesc} {k : Value} {kd : Nat} (hd : (kd = 0 ∧ ∃ q, d = .int q) ∨ (kd = 1 ∧ d = .string) ∨ (kd = 2 ∧ d = .bool)) (hk : keyIs kd k = true) : ∀ (es : List MapEntry) (n : Nat), (es.all fun e => fits k e.key) = true →
    Instr.findNow d k es n = some ((es.findIdx? fun e => sameK k e.key).bind fun i => (es[i]?).map fun e => (n + i, e.val)) := by
  intro es
  induction es with
  | nil => intro n _; rfl
  | cons e r ih =>
    intro n h
    simp only [List.all_cons, Bool.and_eq_true] at h
    have hs : Instr.sameNow d k e.key = some (sameK k e.key) := by
      rcases hd with ⟨rfl, q, rfl⟩ | ⟨rfl, rfl⟩ | ⟨rfl, rfl⟩
      all_goals
        cases k <;> simp [keyIs] at hk
        have h1 := h.1
        cases hkey : e.key <;> rw [hkey] at h1 <;> simp [fits] at h1
        all_goals simp [Instr.sameNow, sameK, h1]
    simp only [Instr.findNow, hs, List.findIdx?_cons]
    cases hsk : sameK k e.key with
    | true => simp
    | false =>
      simp only [Bool.false_eq_true, if_false]
      rw [ih (n + 1) h.2]
      cases hf : r.findIdx? (fun e => sameK k e.key) with
      | none => simp
      | some i =>
        simp only [Option.bind_some, Option.map_some, List.getElem?_cons_succ]
        congr 1
        cases r[i]? with
        | none => rfl
        | some x => simp only [Option.map_some, Option.some.injEq, Prod.mk.injEq, and_true]; omega
theorem findKey_run {t : TypeId} {kd : Nat} {k : Value} {es : List MapEntry} (ht : keyKind P t = some kd) (h : fitsAll kd k es = true) :
    (Instr.findKey t k es).run P w = .ok ((es.findIdx? fun e => sameK k e.key).bind fun i => (es[i]?).map fun e => (i, e.val)) w := by
  simp only [fitsAll, Bool.and_eq_true] at h
  unfold keyKind at ht
  split at ht
  all_goals first | cases ht | skip
  all_goals
    rename_i hu
    simp only [Instr.findKey, Sem.run_bind, run_underlying hu, Result.andThen_ok]
    rw [findNow_run (by first | exact .inl ⟨rfl, _, rfl⟩ | exact .inr (.inl ⟨rfl, rfl⟩) | exact .inr (.inr ⟨rfl, rfl⟩)) h.1 es 0 h.2]
    simp only [Nat.zero_add, Sem.run_pure]
theorem map_of (hw : WR GL ι H w) {r : Nat} {i : BI} (hi : ι r = some i) {es : List MapEntry} {c : Nat} (hg : H.get r = some (.map es c)) :
    i.ro = false ∧ ∃ es', w.heap[i.c]? = some (.map es' c) ∧ es.length = es'.size ∧ ∀ (j : Nat) (e e' : MapEntry), es[j]? = some e → es'[j]? = some e' → e.born = e'.born ∧ e.key = e'.key ∧ keyO e.key = true ∧ VR ι e.val e'.val := by
  obtain ⟨o, hg', hk⟩ := hw.obj r i hi
  rw [hg] at hg'; cases hg'
  exact hk
theorem map_keys {es : List MapEntry} {es' : Array MapEntry} (hl : es.length = es'.size) (h : ∀ (j : Nat) (e e' : MapEntry), es[j]? = some e → es'[j]? = some e' → e.born = e'.born ∧ e.key = e'.key ∧ keyO e.key = true ∧ VR ι e.val e'.val) : es.map (·.key) = es'.toList.map (·.key) := by
  apply List.ext_getElem?
  intro j
  have e0 : es'.toList[j]? = es'[j]? := by simp
  rw [List.getElem?_map, List.getElem?_map, e0]
  cases e1 : es[j]? with
  | none =>
    have := List.getElem?_eq_none_iff.1 e1
    have e2 : es'[j]? = none := Array.getElem?_eq_none (by omega)
    rw [e2]
  | some x =>
    have hlt := (List.getElem?_eq_some_iff.1 e1).1
    have e2 : es'[j]? = some (es'[j]'(by omega)) := Array.getElem?_eq_getElem (by omega)
    rw [e2]
    simp only [Option.map_some]
    rw [(h j x _ e1 e2).2.1]
theorem fits_same {k : Value} {es : List MapEntry} {es' : Array MapEntry} (h : es.map (·.key) = es'.toList.map (·.key)) (kd : Nat) : fitsAll kd k es = fitsAll kd k es'.toList := by
  unfold fitsAll
  have e : ∀ l : List MapEntry, (l.all fun e => fits k e.key) = (l.map (·.key)).all (fits k) := fun l => by rw [List.all_map]; rfl
  rw [e, e, h]
theorem find_same {k : Value} {es : List MapEntry} {es' : Array MapEntry} (h : es.map (·.key) = es'.toList.map (·.key)) : (es.findIdx? fun e => sameK k e.key) = es'.toList.findIdx? fun e => sameK k e.key := by
  have e : ∀ l : List MapEntry, (l.findIdx? fun e => sameK k e.key) = (l.map (·.key)).findIdx? (sameK k) := fun l => by rw [List.findIdx?_map]; rfl
  rw [e, e, h]
theorem find_idx {k : Value} (es : List MapEntry) : (es.find? fun e => sameK k e.key) = (es.findIdx? fun e => sameK k e.key).bind fun i => es[i]? := by
  induction es with
  | nil => rfl
  | cons e r ih =>
    rw [List.find?_cons, List.findIdx?_cons]
    cases sameK k e.key with
    | true => simp
    | false =>
      simp only [Bool.false_eq_true, if_false]
      rw [ih]
      cases r.findIdx? (fun e => sameK k e.key) <;> simp
theorem sound_lookup {t kt et : TypeId} {kd : Nat} {zero v : Value} {x x' k k' : Value} {ok : Bool} {r : OR} (hu : P.underlying t = some (.map kt et)) (hk : keyKind P kt = some kd) (hz : zeroVal P et = some zero) (hx : VR ι x x') (hkr : VR ι k k') (hw : WR GL ι H w)
    (h : (match x with
    | .map none => if keyIs kd k then some (OR.ok (if ok then .tuple #[zero, .bool false] else zero) H) else none
    | .map (some r) => match H.get r with
      | some (.map es _) => if fitsAll kd k es then
          (match es.find? fun e => sameK k e.key with
          | some e => some (.ok (if ok then .tuple #[e.val, .bool true] else e.val) H)
          | none => some (.ok (if ok then .tuple #[zero, .bool false] else zero) H)) else none
      | _ => none
    | _ => none) = some (.ok v H)) : ∃ v', (Instr.lookup t x' k' ok).run P w = .ok v' w ∧ VR ι v v' := by
  obtain ⟨hzr, hzf⟩ := zeroVal_run hz
  have hzv := flatVR ι 3 zero hzf
  have pair : ∀ a a', VR ι a a' → ∀ b, VR ι (if ok then .tuple #[a, .bool b] else a) (if ok then .tuple #[a', .bool b] else a') := by
    intro a a' ha b
    cases ok with
    | false => exact ha
    | true =>
      refine .tuple _ _ rfl fun j u u' e e' => ?_
      match j with
      | 0 => simp at e e'; subst e; subst e'; exact ha
      | 1 => simp at e e'; subst e; subst e'; exact .bool b
      | j + 2 => simp at e
  split at h
  · split at h
    · rename_i hki
      simp only [Option.some.injEq, OR.ok.injEq, and_true] at h
      subst h
      cases hx
      have := keyIs_VR hkr hki
      subst this
      refine ⟨_, ?_, pair _ _ hzv false⟩
      simp only [Instr.lookup, Sem.run_bind, run_underlying hu, Result.andThen_ok, Sem.run_pure, checkKey_run hk hki]
      rw [findKey_run hk (by simp [fitsAll, hki])]
      simp only [List.findIdx?_nil, Option.bind_none, Result.andThen_ok, Sem.run_bind, hzr, Sem.run_pure]
    · cases h
  · rename_i r
    split at h
    · rename_i es c hg
      split at h
      · rename_i hfit
        cases hx with
        | map _ i hi =>
          have hki : keyIs kd k = true := by simp only [fitsAll, Bool.and_eq_true] at hfit; exact hfit.1
          have := keyIs_VR hkr hki
          subst this
          obtain ⟨hro, es', hh, hlen, hrel⟩ := map_of hw hi hg
          have hkeys := map_keys hlen hrel
          rw [fits_same hkeys] at hfit
          have hfk := findKey_run (P := P) (w := w) hk hfit
          rw [find_idx] at h
          rw [find_same hkeys] at h
          have hget : ∀ {es'' : Array MapEntry}, (getObj i.c).run P w = .ok (.map es' c) w := by intro _; simp [getObj, Sem.run, hh]
          cases hf : es'.toList.findIdx? (fun e => sameK k' e.key) with
          | none =>
            simp only [hf, Option.bind_none, Option.some.injEq, OR.ok.injEq, and_true] at h hfk
            subst h
            refine ⟨_, ?_, pair _ _ hzv false⟩
            simp only [Instr.lookup, Sem.run_bind, run_underlying hu, Result.andThen_ok, @hget es', Sem.run_pure, checkKey_run hk hki, hfk, hzr]
          | some j =>
            have hjl : j < es'.size := by
              have := List.findIdx?_eq_some_iff_getElem.1 hf
              obtain ⟨h1, _⟩ := this
              simpa using h1
            have e1 : es[j]? = some (es[j]'(by omega)) := List.getElem?_eq_getElem (by omega)
            have e2 : es'[j]? = some es'[j] := Array.getElem?_eq_getElem hjl
            have e3 : es'.toList[j]? = some es'[j] := by simp [hjl]
            simp only [hf, Option.bind_some, e1, Option.some.injEq, OR.ok.injEq, and_true] at h
            simp only [hf, Option.bind_some, e3, Option.map_some] at hfk
            subst h
            refine ⟨_, ?_, pair _ _ (hrel j _ _ e1 e2).2.2.2 true⟩
            simp only [Instr.lookup, Sem.run_bind, run_underlying hu, Result.andThen_ok, @hget es', Sem.run_pure, checkKey_run hk hki, hfk]
      · cases h
    · cases h
  · cases h
end Go.Proofs.YtehbekgmemebjaaDoorEv
