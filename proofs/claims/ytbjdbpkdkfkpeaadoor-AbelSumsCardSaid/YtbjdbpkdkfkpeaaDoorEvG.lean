import Derived.Test.YtbjdbpkdkfkpeaaDoorEvF
namespace Go.Proofs.YtbjdbpkdkfkpeaaDoorEv
open Go
set_option linter.unusedVariables false
set_option linter.unusedSimpArgs false
variable {P : Program} {GL : List Nat} {ι : Inj} {H : Hp} {w : World}
theorem sound_convSB {s d e : TypeId} {b : ByteArray} (hs : P.underlying s = some .string) (hd : P.underlying d = some (.slice e)) (he : P.underlying e = some (.int .u8)) (hw : WR GL ι H w) :
    Step GL ι H w (.slice (some ⟨H.size, 0, none⟩) b.size b.size) (H.new (.cells (strB b) ⟨1, e, false⟩ false)) ((do pure (.value (← convert s d (.string b))) : Sem Next).run P w) := by
  obtain ⟨cap, hcap, hge⟩ : ∃ cap, (Question.appendCap b.size 0 e).cut (w.tape w.drawn (.appendCap b.size 0 e)) = cap ∧ b.size ≤ cap := ⟨_, rfl, by simp [Question.cut]⟩
  have hsz : (b.data.map (fun x => Value.int .u8 x.toNat) ++ Array.replicate (cap - b.size) (Value.int .u8 0)).size = cap := by
    have h0 : b.data.size = b.size := rfl
    simp only [Array.size_append, Array.size_map, Array.size_replicate]
    omega
  obtain ⟨a1, a2, a3⟩ := step_cells hw (strB b) (b.data.map (fun x => Value.int .u8 x.toNat) ++ Array.replicate (cap - b.size) (Value.int .u8 0)) e ⟨1, e, false⟩ { w with drawn := w.drawn + 1 } rfl rfl rfl rfl (by
      rw [hsz]
      have h0 : (strB b).length = b.size := by simp only [strB, List.length_map]; rfl
      omega) (fun j v hj => by
    refine ⟨v, ?_, ?_⟩
    · rw [Array.getElem?_append]
      have hlt := (List.getElem?_eq_some_iff.1 hj).1
      rw [if_pos (by simpa [strB] using hlt)]
      simpa [strB] using hj
    · simp only [strB, List.getElem?_map, Option.map_eq_some_iff] at hj
      obtain ⟨x, _, rfl⟩ := hj
      exact .int _ _) (cap, cap + 1) ⟨fun x hx => by rw [hsz] at hx; simp; omega, fun h => (by cases h), rfl, fun h => (by cases h), fun _ h => (by cases h)⟩ _ rfl
  refine ⟨.slice (some ⟨w.heap.size, 0, none⟩) b.size cap, _, _, .inl ?_, a2, .slice _ _ _ _ _ _ _ _ (add_same _ _ _) (by simp) (Nat.le_refl _) (.inr ⟨by simp, by simp, hge, fun _ => by simp only [hsz]; omega⟩) (fun _ => by simp), a1, a3, by rw [Hp.size_new]; omega⟩
  have hf : (Question.appendCap b.size 0 e).forced = false := rfl
  simp only [convert, Sem.run_bind, run_underlying hs, run_underlying hd, run_underlying he, Result.andThen_ok, Conv.stringToBytes, choose, Sem.run, hf, Bool.false_eq_true, if_false, hcap, newRow, newObj, markStringish, shape, World.shape?, freeze, World.freeze]
  simp [hsz, Sem.run, Array.modify, Array.modifyM, World.freeze]
  apply Array.ext'
  simp [List.set_append]
theorem sound_mkslice {t e : TypeId} {z : Array Value} {i : TypeInfo} {l c : Int} (hu : P.underlying t = some (.slice e)) (hi : P.info? e = some i) (hz : zeroOf P e = some z) (h0 : 0 ≤ l) (h1 : l ≤ c) (h2 : c * i.bytes ≤ 140737488355328) (h3 : c ≤ 140737488355328) (hw : WR GL ι H w) :
    Step GL ι H w (.slice (some ⟨H.size, 0, none⟩) l.toNat c.toNat) (H.new (.cells (bCells z (c.toNat * i.size)).toList ⟨0, e, true⟩ false)) ((do pure (.value (← Instr.makeSlice t (.int .i64 l) (.int .i64 c))) : Sem Next).run P w) := by
  obtain ⟨zv, hzr, hc, hf, _⟩ := zeroOf_run hz
  obtain ⟨i', hi', hsz⟩ := zeroOf_size hz
  rw [hi] at hi'; cases hi'
  obtain ⟨hb, hbc⟩ := bCells_VA (ι := ι) hf (c.toNat * i.size) (by
    rcases Nat.eq_zero_or_pos i.size with h0 | h0
    · left; simp [h0]
    · right; omega)
  obtain ⟨a1, a2, a3⟩ := step_cells hw (bCells z (c.toNat * i.size)).toList (bCells z (c.toNat * i.size)) e ⟨0, e, true⟩ w rfl rfl rfl rfl (by simp) (fun j v hj => ⟨v, by simpa using hj, hb.2 j v v (by simpa using hj) (by simpa using hj)⟩) (0, 0) ⟨fun x _ => by simp, fun _ => rfl, rfl, fun _ => by simp, fun h => absurd rfl h⟩ _ rfl
  refine ⟨.slice (some ⟨w.heap.size, 0, none⟩) l.toNat c.toNat, _, _, .inl ?_, a2, .slice _ _ _ _ _ _ _ _ (add_same _ _ _) (by simp) (by omega) (.inl ⟨.inl rfl, rfl⟩) (fun _ => by simp), a1, a3, by rw [Hp.size_new]; omega⟩
  have w1 : IntKind.i64.wrap l = l := by simp [IntKind.wrap, IntKind.bits, IntKind.signed]; omega
  have w2 : IntKind.i64.wrap c = c := by simp [IntKind.wrap, IntKind.bits, IntKind.signed]; omega
  have t1 : ∀ n : Int, n = c → (decide (n < 0) || decide (i.bytes * n > 2 ^ 48)) = false := by
    rintro n rfl
    have : (i.bytes : Int) * n = n * i.bytes := Int.mul_comm _ _
    simp only [Bool.or_eq_false_iff, decide_eq_false_iff_not]
    rw [this]
    constructor <;> omega
  have hcells : bCells z (c.toNat * i.size) = (Array.range (c.toNat * i.size)).map ((if c.toNat * i.size = 0 then #[] else zv.cells)[· % (if c.toNat * i.size = 0 then (#[] : Array Value) else zv.cells).size]!) := by
    by_cases h0 : c.toNat * i.size = 0
    · have e0 : Array.range 0 = #[] := Array.eq_empty_of_size_eq_zero (by simp)
      rw [h0]
      simp only [bCells, e0, Array.map_empty]
    · simp only [if_neg h0, hc, bCells]
  have hask : ∀ n, (askRoom n).run P w = .ok () w := by
    intro n; unfold askRoom; split <;> rfl
  have hcond : ¬ (((c < 0 ∨ (i.bytes : Int) * c > 2 ^ 48) ∨ l < 0) ∨ l > c) := by
    have h5 : (i.bytes : Int) * c = c * i.bytes := Int.mul_comm _ _
    rw [h5]
    omega
  simp only [Instr.makeSlice, Sem.run_bind, run_underlying hu, Result.andThen_ok, asInt, asIntOf, Sem.run_pure, typeInfo, run_program, hi, w1, w2, sizeOf]
  simp only [Bool.or_eq_true, decide_eq_true_eq]
  rw [if_neg hcond]
  simp only [Sem.run_bind, hask, run_program, Result.andThen_ok, hi, Sem.run_pure]
  by_cases h0 : c.toNat * i.size = 0
  · simp only [if_pos h0] at hcells
    simp only [if_pos h0, Sem.run_bind, Sem.run_pure, Result.andThen_ok, newRow, newObj, Sem.run, hcells]
  · simp only [if_neg h0] at hcells
    simp only [if_neg h0, Sem.run_bind, hzr, Sem.run_pure, Result.andThen_ok, newRow, newObj, Sem.run, hcells]
theorem boundO_run {y z : Nat} {v v' : Value} {n : Nat} {code : BoundsCode} (hv : VR ι v v') (h : boundO 0 y v = some n) (hyz : y ≤ z) : (Instr.sliceBound v' z code).run P w = .ok n w ∧ n ≤ y := by
  unfold boundO at h
  split at h
  · rename_i k i
    split at h
    · rename_i hc
      cases h; cases hv
      refine ⟨?_, by omega⟩
      have : 0 ≤ i ∧ i ≤ (z : Int) := by omega
      simp only [Instr.sliceBound, asIntOf, Sem.run_bind, Sem.run_pure, Result.andThen_ok, if_pos this]
    · cases h
  · cases h
def VO (ι : Inj) : Option Value → Option Value → Prop
  | none, none => True
  | some v, some v' => VR ι v v'
  | _, _ => False
theorem boundsO_run {len k k' : Nat} {lo hi mx lo' hi' mx' : Option Value} {l h m : Nat} {isSlice : Bool} (h1 : VO ι lo lo') (h2 : VO ι hi hi') (h3 : VO ι mx mx') (hk : k ≤ k') (hlen : len ≤ k) (hb : boundsO len k lo hi mx = some (l, h, m)) :
    ∃ m', (Instr.sliceBounds isSlice len k' lo' hi' mx').run P w = .ok (l, h, m') w ∧ l ≤ h ∧ h ≤ m ∧ m ≤ k ∧ (mx.isSome = true → m' = m) ∧ (mx = none → m = k ∧ m' = k') ∧ m ≤ m' ∧ m' ≤ k' := by
  unfold boundsO at hb
  simp only [Option.bind_eq_some_iff] at hb
  obtain ⟨m0, hm, h0, hh, l0, hl, e⟩ := hb
  simp only [Option.some.injEq, Prod.mk.injEq] at e
  obtain ⟨rfl, rfl, rfl⟩ := e
  cases mx with
  | none =>
    cases mx' with
    | some _ => exact h3.elim
    | none =>
      simp only [optBound, Option.some.injEq] at hm
      subst hm
      simp only [Option.isSome_none, Bool.and_false, Bool.false_eq_true, if_false] at hh
      have hH : ∃ code, ((match hi' with | some v => Instr.sliceBound v k' code | none => pure len) : Sem Nat).run P w = .ok h0 w ∧ code = (if isSlice then .sliceAcap else .sliceAlen) ∧ h0 ≤ k := by
        refine ⟨_, ?_, rfl, ?_⟩
        · cases hi with
          | none => cases hi' with
            | some _ => exact h2.elim
            | none => simp only [optBound, Option.some.injEq] at hh; subst hh; rfl
          | some v => cases hi' with
            | none => exact h2.elim
            | some v' => exact (boundO_run h2 hh hk).1
        · cases hi with
          | none => simp only [optBound, Option.some.injEq] at hh; omega
          | some v => cases hi' with
            | none => exact h2.elim
            | some v' => exact (boundO_run (P := P) (w := w) (code := .index) h2 hh hk).2
      obtain ⟨code, hH1, rfl, hH2⟩ := hH
      have hL : ((match lo' with | some v => Instr.sliceBound v h0 .sliceB | none => pure 0) : Sem Nat).run P w = .ok l0 w ∧ l0 ≤ h0 := by
        cases lo with
        | none => cases lo' with
          | some _ => exact h1.elim
          | none => simp only [optBound, Option.some.injEq] at hl; subst hl; exact ⟨rfl, Nat.zero_le _⟩
        | some v => cases lo' with
          | none => exact h1.elim
          | some v' => exact boundO_run h1 hl (Nat.le_refl _)
      refine ⟨k', ?_, hL.2, hH2, Nat.le_refl _, (fun h => by cases h), (fun _ => ⟨rfl, rfl⟩), hk, Nat.le_refl _⟩
      cases hi' <;> cases lo' <;> simp only [Instr.sliceBounds, Sem.run_bind, Sem.run_pure, Result.andThen_ok, Option.isSome_none, Bool.false_eq_true, if_false] at hH1 hL ⊢ <;> simp_all
  | some mv =>
    cases mx' with
    | none => exact h3.elim
    | some mv' =>
      have hM := boundO_run (P := P) (w := w) (code := if isSlice then .slice3Acap else .slice3Alen) h3 hm hk
      cases hi with
      | none => simp at hh
      | some v => cases hi' with
        | none => exact h2.elim
        | some v' =>
          simp only [Option.isNone_some, Bool.false_and, Bool.false_eq_true, if_false] at hh
          have hH := boundO_run (P := P) (w := w) (code := .slice3B) h2 hh (Nat.le_refl _)
          have hL : ((match lo' with | some v => Instr.sliceBound v h0 .slice3C | none => pure 0) : Sem Nat).run P w = .ok l0 w ∧ l0 ≤ h0 := by
            cases lo with
            | none => cases lo' with
              | some _ => exact h1.elim
              | none => simp only [optBound, Option.some.injEq] at hl; subst hl; exact ⟨rfl, Nat.zero_le _⟩
            | some v => cases lo' with
              | none => exact h1.elim
              | some v' => exact boundO_run h1 hl (Nat.le_refl _)
          refine ⟨m0, ?_, hL.2, hH.2, hM.2, (fun _ => rfl), (fun h => by cases h), Nat.le_refl _, by omega⟩
          cases lo' <;> simp only [Instr.sliceBounds, Sem.run_bind, Sem.run_pure, Result.andThen_ok, hM.1, hH.1, Option.isSome_some, if_true] at hL ⊢ <;> simp_all
theorem obj_u (hw : WR GL ι H w) {b : Nat} {i : BI} (hb : ι b = some i) {cs : List Value} {u : UT} {ro : Bool} (hg : H.get b = some (.cells cs u ro)) : i.u = u.u ∧ i.ro = ro := by
  obtain ⟨o, hg', hk⟩ := hw.obj b i hb
  rw [hg] at hg'; cases hg'
  exact ⟨hk.1.1, hk.2.1⟩
theorem sound_slc {t e : TypeId} {size : Nat} {x x' v : Value} {lo hi mx lo' hi' mx' : Option Value} (hu : P.underlying t = some (.slice e)) (hs : sizeQ P e = some size) (h0 : size ≠ 0) (hx : VR ι x x') (h1 : VO ι lo lo') (h2 : VO ι hi hi') (h3 : VO ι mx mx') (hw : WR GL ι H w) (h : sliceO H size x lo hi mx = some v) :
    ∃ v', (Instr.sliceAt t x' lo' hi' mx').run P w = .ok v' w ∧ VR ι v v' := by
  have e0 : (Instr.sliceAt t x' lo' hi' mx').run P w = (Instr.slice t x' lo' hi' mx').run P w := by
    simp only [Instr.sliceAt, Sem.run_bind, run_underlying hu, Result.andThen_ok]
  rw [e0]
  unfold sliceO at h
  split at h
  · cases hx
    simp only [Option.bind_eq_bind, Option.bind_eq_some_iff] at h
    obtain ⟨⟨l, hh, m⟩, hb, hv⟩ := h
    cases hv
    obtain ⟨m', hr, c1, c2, c3, c4, c5, c6, c7⟩ := boundsO_run (P := P) (w := w) (isSlice := true) h1 h2 h3 (Nat.le_refl 0) (Nat.le_refl 0) hb
    refine ⟨.slice none 0 0, ?_, .snil⟩
    have q1 : l = 0 := by omega
    have q2 : hh = 0 := by omega
    have q3 : m' = 0 := by omega
    subst q1; subst q2; subst q3
    simp only [Instr.slice, Sem.run_bind, run_underlying hu, Result.andThen_ok, hr, sizeQ_run hs, Sem.run_pure, if_true]
  · rename_i b o sp n k
    cases hx with
    | arg _ _ _ A k' hnk ha =>
      simp only [Option.bind_eq_bind, Option.bind_eq_some_iff] at h
      obtain ⟨⟨l, hh, m⟩, hb, hv⟩ := h
      simp only [if_true] at hv
      split at hv
      · cases hv
      rename_i hc0
      cases hv
      simp only [Bool.or_eq_true, beq_iff_eq, not_or, Bool.not_eq_true, Option.isSome_eq_false_iff, Option.isNone_iff_eq_none] at hc0
      obtain ⟨hmx, hn0⟩ := hc0
      subst hmx
      obtain ⟨i, hi', rfl⟩ := ha hn0
      obtain ⟨m', hr, c1, c2, c3, c4, c5, c6, c7⟩ := boundsO_run (P := P) (w := w) (isSlice := true) h1 h2 h3 hnk (Nat.le_refl _) hb
      obtain ⟨r1, r2⟩ := c5 rfl
      refine ⟨.slice (if m' = l then some ⟨i.c, i.d + o, none⟩ else (some (⟨i.c, i.d + o, none⟩ : Addr)).map (·.add (l * size))) (hh - l) (m' - l), ?_, ?_⟩
      · simp only [Instr.slice, Sem.run_bind, run_underlying hu, Result.andThen_ok, hr, sizeQ_run hs, Sem.run_pure]
      · refine .arg _ _ _ _ _ (by omega) (fun h0 => ⟨i, hi', ?_⟩)
        rw [if_neg (by omega)]
        simp only [Option.map_some, add_plain', Nat.add_assoc]
    | slice _ _ _ _ _ i a k' hi' hns hnk hk ha =>
      simp only [Option.bind_eq_bind, Option.bind_eq_some_iff] at h
      obtain ⟨⟨l, hh, m⟩, hb, hv⟩ := h
      have hkk : k ≤ k' := by rcases hk with hk | hk <;> omega
      obtain ⟨m', hr, c1, c2, c3, c4, c5, c6, c7⟩ := boundsO_run (P := P) (w := w) (isSlice := true) h1 h2 h3 hkk hnk hb
      rw [if_neg hns] at hv
      split at hv
      · rename_i cs u ro hg
        split at hv
        · rename_i hus
          cases hv
          obtain ⟨iu, iro⟩ := obj_u hw hi' hg
          refine ⟨.slice (if m' = l then some a else (some a).map (·.add (l * size))) (hh - l) (m' - l), ?_, ?_⟩
          · simp only [Instr.slice, Sem.run_bind, run_underlying hu, Result.andThen_ok, hr, sizeQ_run hs, Sem.run_pure]
          · have hA : ∃ a2, (if m' = l then some a else (some a).map (·.add (l * size))) = some a2 ∧ (m' - l ≠ 0 ∨ o + l * size = 0 → a2 = ⟨i.c, i.d + (o + l * size), none⟩) := by
              by_cases hml : m' = l
              · exact ⟨a, by rw [if_pos hml], fun h => by
                  have hz : o + l * size = 0 := h.resolve_left (by omega)
                  rw [ha (.inr (by omega)), hz]
                  have : o = 0 := by omega
                  rw [this]⟩
              · refine ⟨a.add (l * size), by rw [if_neg hml]; rfl, fun _ => ?_⟩
                rw [ha (.inl (by omega)), add_plain', Nat.add_assoc]
            obtain ⟨a2, ha2, ha3⟩ := hA
            rw [ha2]
            refine .slice _ _ _ _ _ i a2 _ hi' (by split <;> simp_all) (by omega) ?_ ha3
            cases hmx : mx with
            | some mv =>
              left
              exact ⟨.inr (by simp), by rw [c4 (by rw [hmx]; rfl)]⟩
            | none =>
              obtain ⟨r1, r2⟩ := c5 hmx
              subst r1; subst r2
              simp only [Option.isSome_none, Bool.false_eq_true, if_false]
              rcases hk with hk | ⟨k1, k2, k3, k4⟩
              · left; exact ⟨hk.1, by omega⟩
              · right
                refine ⟨k1, k2, by omega, fun hro => ?_⟩
                have := k4 hro
                have hue : i.u = size := by rw [iu]; rcases hus with hus | hus
                                            · rw [iu] at k1; exact absurd hus k1
                                            · exact hus
                rw [hue] at this ⊢
                have e1 : l * size + (m' - l) * size = m' * size := by
                  rw [← Nat.add_mul]; congr 1; omega
                omega
        · cases hv
      · cases hv
  · cases h
end Go.Proofs.YtbjdbpkdkfkpeaaDoorEv
