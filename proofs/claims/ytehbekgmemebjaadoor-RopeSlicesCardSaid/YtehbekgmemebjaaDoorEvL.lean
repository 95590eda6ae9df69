import Derived.Test.YtehbekgmemebjaaDoorEvK
namespace Go.Proofs.YtehbekgmemebjaaDoorEv
open Go
set_option linter.unusedVariables false
set_option linter.unusedSimpArgs false
variable {P : Program} {GL : List Nat} {ι : Inj} {H : Hp} {w : World}
theorem sliceTake_run {size : Nat} {x x' : Value} {l : List Value} (hx : VR ι x x') (hw : WR GL ι H w) (h : sliceCells H size x = some l) (n m : Nat) (hn : lenO x = some n) (hm : m ≤ n) :
    ∃ l', VL ι (l.take (m * size)) l' ∧ (l.take (m * size)).length = m * size ∧ (Builtin.firstCells size m x').run P w = .ok l'.toArray w := by
  by_cases hm0 : m = 0
  · subst hm0
    refine ⟨[], ⟨by simp, fun j v v' e => by simp at e⟩, by simp, ?_⟩
    unfold sliceCells at h
    split at h
    · cases hx; rfl
    · cases hx with
      | slice => simp [Builtin.firstCells, loadCells, loadCellsFrom]
      | arg _ _ _ A k' hnk ha => cases A <;> simp [Builtin.firstCells, loadCells, loadCellsFrom]
    · cases hx
      simp only [Builtin.firstCells, Sem.run_pure]
      congr 1
      apply Array.ext'
      simp
    · cases h
  · unfold sliceCells at h
    split at h
    · simp [lenO] at hn; omega
    · rename_i b o sp n0 k
      simp [lenO] at hn; subst hn
      cases hx with
      | arg _ _ _ A k' hnk ha =>
        rw [if_neg (by omega)] at h
        obtain ⟨i, hi, rfl⟩ := ha (by omega)
        split at h
        · rename_i cs u ro hg
          split at h
          · rename_i hle
            cases h
            have hms : m * size ≤ n0 * size := Nat.mul_le_mul_right _ hm
            obtain ⟨l', hl, hv, hc⟩ := cells_of hw hi hg (o := o) (n := m * size) (by omega)
            refine ⟨l', ?_, ?_, ?_⟩
            · rw [List.take_take, Nat.min_eq_left hms]; exact hv
            · simp; omega
            · have := run_loadCells_list (P := P) w _ l' hc
              rw [hl] at this
              simp only [Builtin.firstCells, this]
          · cases h
        · cases h
      | slice _ _ _ _ _ i a k' hi hns hnk hk ha =>
        rw [if_neg (by omega)] at h
        split at h
        · rename_i cs u ro hg
          split at h
          · rename_i hle
            cases h
            have hms : m * size ≤ n0 * size := Nat.mul_le_mul_right _ hm
            obtain ⟨l', hl, hv, hc⟩ := cells_of hw hi hg (o := o) (n := m * size) (by omega)
            refine ⟨l', ?_, ?_, ?_⟩
            · rw [List.take_take, Nat.min_eq_left hms]; exact hv
            · simp; omega
            · have hk0 : k' ≠ 0 := by rcases hk with hk | hk <;> omega
              have := run_loadCells_list (P := P) w _ l' hc
              rw [hl] at this
              simp only [Builtin.firstCells, ha (.inl hk0), this]
          · cases h
        · cases h
    · rename_i s
      split at h
      · rename_i h1
        cases h; cases hx
        simp [lenO] at hn; subst hn; subst h1
        refine ⟨(s.data.toList.map fun b => Value.int .u8 b.toNat).take m, ⟨by simp, fun j v v' e e' => ?_⟩, ?_, ?_⟩
        · rw [Nat.mul_one, e'] at e; cases e
          rw [List.getElem?_take] at e'
          split at e'
          · simp only [List.getElem?_map, Option.map_eq_some_iff] at e'
            obtain ⟨_, _, rfl⟩ := e'
            exact .int _ _
          · cases e'
        · have h0 : s.data.toList.length = s.size := rfl
          simp only [List.length_take, List.length_map, Nat.mul_one, h0]
          omega
        · simp only [Builtin.firstCells, Sem.run_pure]
          congr 1
          apply Array.ext'
          simp
      · cases h
    · cases h
theorem sound_copy {dt st ty e : TypeId} {size : Nat} {d s d' s' v : Value} {H' : Hp} (hdt : P.underlying dt = some (.slice e)) (hsz : sizeQ P e = some size) (hd : VR ι d d') (hs : VR ι s s') (hw : WR GL ι H w)
    (h : (match d with
    | .slice base dn _ => do
      let m ← lenO s
      let cs ← sliceCells H size s
      let new := cs.take (min m dn * size)
      match base with
      | none => some (OR.ok (.int .i64 (min m dn : Nat)) H)
      | some ⟨b, o, sp⟩ => match H.get b with
        | some (.cells ds u ro) => if sp = some 2 then none else if min m dn = 0 then some (.ok (.int .i64 0) H) else if ro = false ∧ o + min m dn * size ≤ ds.length ∧ new.all isCell = true then some (.ok (.int .i64 (min m dn : Nat)) (H.put b (.cells (setL ds o new) u ro))) else none
        | _ => none
    | _ => none) = some (.ok v H')) : Step GL ι H w v H' ((do pure (.value (← Builtin.copy_ #[dt, st] ty #[d', s'])) : Sem Next).run P w) := by
  have h0 : (#[dt, st] : Array TypeId)[0]? = some dt := rfl
  have h1 : (#[d', s'] : Array Value)[0]? = some d' := rfl
  have h2 : (#[d', s'] : Array Value)[1]? = some s' := rfl
  split at h
  · rename_i base dn k
    simp only [Option.bind_eq_bind, Option.bind_eq_some_iff] at h
    obtain ⟨m, hm, cs, hcs, h⟩ := h
    have hm' := lenO_run (P := P) (w := w) hs hm
    obtain ⟨l', hv, hl, hr⟩ := sliceTake_run (P := P) hs hw hcs m (min m dn) hm (Nat.min_le_left _ _)
    split at h
    · simp only [Option.some.injEq, OR.ok.injEq] at h
      obtain ⟨rfl, rfl⟩ := h
      cases hd
      refine Step.pure hw (v' := .int .i64 (min m 0 : Nat)) ?_ (.int _ _)
      simp only [Builtin.copy_, h0, h1, h2, Sem.run_bind, run_underlying hdt, Result.andThen_ok, hm', sizeQ_run hsz, Sem.run_pure, hr, goInt]
      try rfl
    · rename_i b o sp
      cases hd with
      | arg _ _ _ A k' hnk ha =>
        split at h
        · simp at h
        · cases h
      | slice _ _ _ _ _ i a k' hi hns hnk hk ha =>
        split at h
        · rename_i ds u ro hg
          rw [if_neg hns] at h
          split at h
          · rename_i hmin
            simp only [Option.some.injEq, OR.ok.injEq] at h
            obtain ⟨rfl, rfl⟩ := h
            refine Step.pure hw (v' := .int .i64 0) ?_ (.int _ _)
            have hl0 : l' = [] := by
              have := hv.1
              rw [hl, hmin, Nat.zero_mul] at this
              exact List.eq_nil_of_length_eq_zero this.symm
            subst hl0
            have hmin' : Nat.min m dn = 0 := hmin
            rw [hmin] at hr
            simp only [Builtin.copy_, h0, h1, h2, Sem.run_bind, run_underlying hdt, Result.andThen_ok, hm', sizeQ_run hsz, hmin', hr, storeCells, Sem.run_pure, goInt]
            rfl
          · rename_i hmin
            split at h
            · rename_i hcond
              obtain ⟨rfl, hle, hcells⟩ := hcond
              simp only [Option.some.injEq, OR.ok.injEq] at h
              obtain ⟨rfl, rfl⟩ := h
              obtain ⟨w', hst', hw', hfr⟩ := store_both (P := P) hw hi hg (o := o) hv (by omega) (fun v hv => by
                rw [List.all_eq_true] at hcells
                exact hcells v hv)
              have haa := ha (.inl (by rcases hk with hk | hk <;> omega))
              refine ⟨.int .i64 (min m dn : Nat), w', ι, .inl ?_, New.refl _ _ _, .int _ _, hw', hfr, by rw [Hp.size_put]; exact Nat.le_refl _⟩
              have hmin' : Nat.min m dn = min m dn := rfl
              subst haa
              simp only [Builtin.copy_, h0, h1, h2, Sem.run_bind, run_underlying hdt, Result.andThen_ok, hm', sizeQ_run hsz, hmin', hr, hst', Sem.run_pure, goInt]
            · cases h
        · cases h
  · cases h
theorem mx2_run {x y x' y' v : Value} (hx : VR ι x x') (hy : VR ι y y') (h : mx2 x y = some v) : (Builtin.max_ #[] 0 #[x', y']).run P w = .ok v w ∧ VR ι v v := by
  unfold mx2 at h
  split at h
  · cases h; cases hx; cases hy
    exact ⟨by simp [Builtin.max_, Builtin.max2], .int _ _⟩
  · cases h
theorem mn2_run {x y x' y' v : Value} (hx : VR ι x x') (hy : VR ι y y') (h : mn2 x y = some v) : (Builtin.min_ #[] 0 #[x', y']).run P w = .ok v w ∧ VR ι v v := by
  unfold mn2 at h
  split at h
  · cases h; cases hx; cases hy
    exact ⟨by simp [Builtin.min_, Builtin.min2], .int _ _⟩
  · cases h
theorem step_of {v v' : Value} {s : Sem Value} (hw : WR GL ι H w) (hr : s.run P w = .ok v' w) (hv : VR ι v v') : Step GL ι H w v H ((do pure (.value (← s)) : Sem Next).run P w) :=
  Step.pure hw (v' := v') (by simp only [Sem.run_bind, hr, Result.andThen_ok, Sem.run_pure]) hv
theorem VO_map {ρ ρ' : Env} {x : Option Operand} (h : ∀ y, x = some y → VR ι (ρ y) (ρ' y)) : VO ι (x.map ρ) (x.map ρ') := by
  cases x with
  | none => exact True.intro
  | some y => exact h y rfl
theorem VA_map {ρ ρ' : Env} {xs : Array Operand} (h : ∀ y ∈ xs, VR ι (ρ y) (ρ' y)) : VA ι (xs.map ρ) (xs.map ρ') := by
  refine ⟨by simp, fun j v v' e e' => ?_⟩
  rw [Array.getElem?_map] at e e'
  cases hx : xs[j]? with
  | none => rw [hx] at e; simp at e
  | some y =>
    rw [hx] at e e'
    simp at e e'
    subst e; subst e'
    exact h y (Array.mem_of_getElem? hx)
theorem VA_append {a b a' b' : Array Value} (h : VA ι a a') (k : VA ι b b') : VA ι (a ++ b) (a' ++ b') := by
  refine ⟨by simp [h.1, k.1], fun j v v' e e' => ?_⟩
  rw [Array.getElem?_append] at e e'
  rw [← h.1] at e'
  split at e
  · rw [if_pos (by assumption)] at e'
    exact h.2 j v v' e e'
  · rw [if_neg (by assumption)] at e'
    exact k.2 _ v v' e e'
set_option maxHeartbeats 2000000 in
theorem op_sound {o : Oper} {ao : AOp} (hc : compOp P o = some ao) {ρ ρ' : Env} (hρ : ∀ x ∈ o.op.operands, VR ι (ρ x) (ρ' x)) (hw : WR GL ι H w) {v : Value} {H' : Hp} (h : evOp ρ H ao = some (.ok v H')) : Step GL ι H w v H' ((execOp ρ' o).run P w) := by
  obtain ⟨dst, op, ty, pos, after, guard⟩ := o
  cases op
  case move x =>
    simp only [compOp] at hc
    cases hc
    simp only [evOp, Option.some.injEq, OR.ok.injEq] at h
    obtain ⟨rfl, rfl⟩ := h
    exact Step.pure hw rfl (hρ x (by simp [Op.operands]))
  case assign x =>
    simp only [compOp] at hc
    cases hc
    simp only [evOp, Option.some.injEq, OR.ok.injEq] at h
    obtain ⟨rfl, rfl⟩ := h
    exact Step.pure hw rfl (hρ x (by simp [Op.operands]))
  case pick c a b =>
    simp only [compOp] at hc
    cases hc
    have h1 := hρ c (by simp [Op.operands])
    have h2 := hρ a (by simp [Op.operands])
    have h3 := hρ b (by simp [Op.operands])
    simp only [evOp] at h
    split at h
    · rename_i t ht
      simp only [Option.some.injEq, OR.ok.injEq] at h
      obtain ⟨rfl, rfl⟩ := h
      rw [ht] at h1
      cases hcc : ρ' c <;> rw [hcc] at h1 <;> cases h1
      refine Step.pure hw (v' := if t then ρ' a else ρ' b) ?_ (by cases t <;> assumption)
      simp only [execOp, hcc, asBool, Sem.run_bind, Sem.run_pure, Result.andThen_ok]
    · cases h
  case alloc e =>
    simp only [compOp] at hc
    simp only [Option.map_eq_some_iff] at hc
    obtain ⟨z, hz, rfl⟩ := hc
    simp only [evOp, Option.some.injEq, OR.ok.injEq] at h
    obtain ⟨rfl, rfl⟩ := h
    exact sound_new hz hw
  case box e x =>
    simp only [compOp] at hc
    cases hc
    simp only [evOp, Option.some.injEq, OR.ok.injEq] at h
    obtain ⟨rfl, rfl⟩ := h
    exact sound_box (hρ x (by simp [Op.operands])) hw
  case build t parts =>
    simp only [compOp] at hc
    have hp : ∀ p ∈ parts, VR ι (ρ p.2) (ρ' p.2) := fun p hp => hρ p.2 (by simp only [Op.operands]; simp; exact ⟨p.1, hp⟩)
    split at hc
    · rename_i fs z hu hz
      simp only [Option.map_eq_some_iff] at hc
      obtain ⟨l, hl, rfl⟩ := hc
      simp only [evOp, Option.map_eq_some_iff] at h
      obtain ⟨cs, hcs, h⟩ := h
      simp only [OR.ok.injEq] at h
      obtain ⟨rfl, rfl⟩ := h
      exact sound_build hu hz hl parts hp hw hcs
    · rename_i m e z hu hz
      simp only [Option.map_eq_some_iff] at hc
      obtain ⟨l, hl, rfl⟩ := hc
      simp only [evOp, Option.map_eq_some_iff] at h
      obtain ⟨cs, hcs, h⟩ := h
      simp only [OR.ok.injEq] at h
      obtain ⟨rfl, rfl⟩ := h
      exact sound_buildA hu hz hl parts hp hw hcs
    · cases hc
  case buildSlice t len parts =>
    simp only [compOp] at hc
    have hp : ∀ p ∈ parts, VR ι (ρ p.2) (ρ' p.2) := fun p hp => hρ p.2 (by simp only [Op.operands]; simp; exact ⟨p.1, hp⟩)
    split at hc
    · rename_i e hu
      split at hc
      · rename_i n z hn hz
        split at hc
        · rename_i hle
          cases hc
          simp only [evOp, Option.map_eq_some_iff] at h
          obtain ⟨cs, hcs, h⟩ := h
          simp only [OR.ok.injEq] at h
          obtain ⟨rfl, rfl⟩ := h
          exact sound_bslice hu hz hn hle parts hp hw hcs
        · cases hc
      · cases hc
    · cases hc
  case load t a =>
    simp only [compOp] at hc
    split at hc
    · rename_i n ha hn
      cases hc
      simp only [evOp, Option.map_eq_some_iff] at h
      obtain ⟨u, hu, h⟩ := h
      simp only [OR.ok.injEq] at h
      obtain ⟨rfl, rfl⟩ := h
      exact sound_loadA ha hn (hρ a (by simp [Op.operands])) hw hu
    · rename_i n ha hn
      cases hc
      simp only [evOp, Option.map_eq_some_iff] at h
      obtain ⟨u, hu, h⟩ := h
      simp only [OR.ok.injEq] at h
      obtain ⟨rfl, rfl⟩ := h
      exact sound_load ha (hρ a (by simp [Op.operands])) hw hu
    · cases hc
  case store t a x =>
    simp only [compOp] at hc
    simp only [Option.map_eq_some_iff] at hc
    obtain ⟨n, hn, rfl⟩ := hc
    simp only [evOp, Option.map_eq_some_iff] at h
    obtain ⟨u, hu, h⟩ := h
    simp only [OR.ok.injEq] at h
    obtain ⟨rfl, rfl⟩ := h
    exact sound_store hn (hρ a (by simp [Op.operands])) (hρ x (by simp [Op.operands])) hw hu
  case nilCheck x =>
    simp only [compOp] at hc
    cases hc
    have h1 := hρ x (by simp [Op.operands])
    simp only [evOp] at h
    split at h
    · cases h
    · cases h
    · cases h
    · rename_i f a b hx
      simp only [Option.some.injEq, OR.ok.injEq] at h
      obtain ⟨rfl, rfl⟩ := h
      rw [hx] at h1
      cases hcc : ρ' x <;> rw [hcc] at h1 <;> cases h1
      refine Step.pure hw (by simp only [execOp, hcc]; rfl) ?_
      constructor <;> assumption
    · rename_i a hx
      simp only [Option.some.injEq, OR.ok.injEq] at h
      obtain ⟨rfl, rfl⟩ := h
      rw [hx] at h1
      cases hcc : ρ' x <;> rw [hcc] at h1 <;> cases h1
      refine Step.pure hw (by simp only [execOp, hcc]; rfl) ?_
      constructor; assumption
    · cases h
  case binOp op t x y yt =>
    have h1 := hρ x (by simp [Op.operands])
    have h2 := hρ y (by simp [Op.operands])
    have bin : ao = .bin op x y → Step GL ι H w v H' ((execOp ρ' ⟨dst, .binOp op t x y yt, ty, pos, after, guard⟩).run P w) := by
      rintro rfl
      simp only [evOp, Option.map_eq_some_iff] at h
      obtain ⟨u, hu, h⟩ := h
      simp only [OR.ok.injEq] at h
      obtain ⟨rfl, rfl⟩ := h
      obtain ⟨v', hr, hv⟩ := sound_bin (P := P) (w := w) (op := op) (t := t) (X := x) (Y := y) h1 h2 hu
      exact step_of hw hr hv
    have eqs : ∀ (kind : Nat) (d : TypeDesc), op = .eql ∨ op = .neq → P.underlying t = some d → kindOf d = some kind → (kind = 5 → (∃ c, x = .const c) ∨ (∃ c, y = .const c)) → ao = .eq kind (op == .neq) x y → Step GL ι H w v H' ((execOp ρ' ⟨dst, .binOp op t x y yt, ty, pos, after, guard⟩).run P w) := by
      rintro kind d hop hd hk hX rfl
      simp only [evOp, Option.map_eq_some_iff] at h
      obtain ⟨u, hu, h⟩ := h
      simp only [OR.ok.injEq] at h
      obtain ⟨rfl, rfl⟩ := h
      exact step_of hw (sound_eq hop hd hk hX h1 h2 hu) (.bool _)
    have isC : ∀ z : Operand, isConst z = true → ∃ c, z = .const c := by
      intro z hz; cases z <;> simp [isConst] at hz; exact ⟨_, rfl⟩
    have ceq : op = .eql ∨ op = .neq → compEq P op t x y = some ao → Step GL ι H w v H' ((execOp ρ' ⟨dst, .binOp op t x y yt, ty, pos, after, guard⟩).run P w) := by
      intro hop hc
      unfold compEq at hc
      split at hc
      · cases hc; exact bin rfl
      · cases hc; exact bin rfl
      · rename_i ms hu
        split at hc
        · rename_i hco
          cases hc
          refine eqs 5 _ hop hu rfl (fun _ => ?_) rfl
          simp only [Bool.or_eq_true] at hco
          rcases hco with hco | hco
          · exact .inl (isC x hco)
          · exact .inr (isC y hco)
        · cases hc
      · rename_i hu; cases hc; exact eqs 0 _ hop hu rfl (by simp) rfl
      · rename_i hu; cases hc; exact eqs 1 _ hop hu rfl (by simp) rfl
      · rename_i hu; cases hc; exact eqs 2 _ hop hu rfl (by simp) rfl
      · rename_i hu; cases hc; exact eqs 3 _ hop hu rfl (by simp) rfl
      · rename_i hu; cases hc; exact eqs 4 _ hop hu rfl (by simp) rfl
      · cases hc
    cases op
    case eql => simp only [compOp] at hc; exact ceq (.inl rfl) hc
    case neq => simp only [compOp] at hc; exact ceq (.inr rfl) hc
    all_goals (simp only [compOp] at hc; cases hc; exact bin rfl)
  case unOp op t x =>
    simp only [compOp] at hc
    cases hc
    simp only [evOp, Option.map_eq_some_iff] at h
    obtain ⟨u, hu, h⟩ := h
    simp only [OR.ok.injEq] at h
    obtain ⟨rfl, rfl⟩ := h
    obtain ⟨v', hr, hv⟩ := sound_un (P := P) (w := w) (hρ x (by simp [Op.operands])) hu
    exact step_of hw hr hv
  case convert sT dT x =>
    simp only [compOp] at hc
    have h1 := hρ x (by simp [Op.operands])
    split at hc
    · rename_i k0 k hs hd
      cases hc
      simp only [evOp] at h
      split at h
      · rename_i k1 n hx
        simp only [Option.some.injEq, OR.ok.injEq] at h
        obtain ⟨rfl, rfl⟩ := h
        rw [hx] at h1
        cases hcc : ρ' x <;> rw [hcc] at h1 <;> cases h1
        refine step_of hw (v' := .int k (k.wrap n)) ?_ (.int _ _)
        simp only [convert, Sem.run_bind, run_underlying hs, run_underlying hd, hcc, Result.andThen_ok, Conv.intToInt, Sem.run_pure]
      · cases h
    · rename_i hs hd
      cases hc
      simp only [evOp] at h
      split at h
      · rename_i b hx
        simp only [Option.some.injEq, OR.ok.injEq] at h
        obtain ⟨rfl, rfl⟩ := h
        rw [hx] at h1
        cases hcc : ρ' x <;> rw [hcc] at h1 <;> cases h1
        refine step_of hw (v' := .string b) ?_ (.string _)
        simp only [convert, Sem.run_bind, run_underlying hs, run_underlying hd, hcc, Result.andThen_ok, Sem.run_pure]
      · cases h
    · rename_i e hs hd
      split at hc
      · rename_i he
        cases hc
        simp only [evOp] at h
        split at h
        · rename_i b n k hx
          simp only [Option.map_eq_some_iff, Option.bind_eq_some_iff] at h
          obtain ⟨l, ⟨cs, hcs, hl⟩, h⟩ := h
          simp only [OR.ok.injEq] at h
          obtain ⟨rfl, rfl⟩ := h
          rw [hx] at h1
          exact step_of hw (sound_convBS hs he hd h1 hw hcs hl) (.string _)
        · cases h
      · cases hc
    · rename_i e hs hd
      split at hc
      · rename_i he
        cases hc
        simp only [evOp] at h
        split at h
        · rename_i b hx
          simp only [Option.some.injEq, OR.ok.injEq] at h
          obtain ⟨rfl, rfl⟩ := h
          rw [hx] at h1
          cases hcc : ρ' x <;> rw [hcc] at h1 <;> cases h1
          have := sound_convSB (ι := ι) (b := b) hs hd he hw
          rw [← hcc] at this
          exact this
        · cases h
      · cases hc
    · cases hc
  case makeInterface t x =>
    simp only [compOp] at hc
    split at hc
    · cases hc
    · rename_i d hni hu
      cases hc
      simp only [evOp, Option.some.injEq, OR.ok.injEq] at h
      obtain ⟨rfl, rfl⟩ := h
      refine step_of hw (v' := .iface t (ρ' x)) ?_ (.iface _ _ _ (hρ x (by simp [Op.operands])))
      cases d <;> first
        | exact (hni _ rfl).elim
        | exact (hni _ hu).elim
        | simp only [Instr.makeInterface, Sem.run_bind, run_underlying hu, Result.andThen_ok, Sem.run_pure]
    · cases hc
  case makeFunc fn a b =>
    cases fn <;> simp only [compOp] at hc <;> first | cases hc | skip
    simp only [evOp, Option.some.injEq, OR.ok.injEq] at h
    obtain ⟨rfl, rfl⟩ := h
    have h1 := VA_map (ρ := ρ) (ρ' := ρ') (xs := a) (fun y hy => hρ y (by simp [Op.operands]; exact .inl hy))
    have h2 := VA_map (ρ := ρ) (ρ' := ρ') (xs := b) (fun y hy => hρ y (by simp [Op.operands]; exact .inr hy))
    exact step_of hw rfl (.func _ _ _ _ _ h1.1 h2.1 h1.2 h2.2)
  case makeMap t r =>
    cases r <;> simp only [compOp] at hc <;> first | cases hc | skip
    simp only [evOp, Option.some.injEq, OR.ok.injEq] at h
    obtain ⟨rfl, rfl⟩ := h
    obtain ⟨a, b, c⟩ := hw.alloc (.map [] 0) (.map #[] 0) { c := w.heap.size, d := 0, u := 0, cn := 0, ro := false } { w with heap := w.heap.push (.map #[] 0) } rfl rfl rfl ⟨rfl, #[], by simp, rfl, fun j e e' he => by simp at he⟩ rfl rfl rfl
    refine ⟨.map (some w.heap.size), _, _, .inl ?_, b, .map _ _ (add_same _ _ _), a, c, by rw [Hp.size_new]; omega⟩
    simp [execOp, Instr.makeMap, newObj, Sem.run]
  case makeSlice t l c =>
    simp only [compOp] at hc
    have h1 := hρ l (by simp [Op.operands])
    have h2 := hρ c (by simp [Op.operands])
    split at hc
    · rename_i e hu
      split at hc
      · rename_i i z hi hz
        cases hc
        simp only [evOp] at h
        split at h
        · rename_i lv cv hl hcv
          split at h
          · rename_i hcond
            obtain ⟨c1, c2, c3, c4⟩ := hcond
            simp only [Option.some.injEq, OR.ok.injEq] at h
            obtain ⟨rfl, rfl⟩ := h
            rw [hl] at h1
            rw [hcv] at h2
            cases hq1 : ρ' l <;> rw [hq1] at h1 <;> cases h1
            cases hq2 : ρ' c <;> rw [hq2] at h2 <;> cases h2
            have := sound_mkslice hu hi hz c1 c2 c3 c4 hw
            rw [← hq1, ← hq2] at this
            exact this
          · cases h
        · cases h
      · cases hc
    · cases hc
  case slice t x lo hi mx =>
    simp only [compOp] at hc
    have h1 := hρ x (by simp [Op.operands])
    have hlo : VO ι (lo.map ρ) (lo.map ρ') := VO_map fun y hy => hρ y (by subst hy; simp [Op.operands])
    have hhi : VO ι (hi.map ρ) (hi.map ρ') := VO_map fun y hy => hρ y (by subst hy; simp [Op.operands])
    have hmx : VO ι (mx.map ρ) (mx.map ρ') := VO_map fun y hy => hρ y (by subst hy; simp [Op.operands])
    split at hc
    · rename_i n e hu
      simp only [Option.bind_eq_some_iff] at hc
      obtain ⟨s, hs, hc⟩ := hc
      split at hc
      · cases hc
      · cases hc
        simp only [evOp] at h
        split at h
        · rename_i b o hx
          split at h
          · rename_i cs ro hg
            simp only [Option.map_eq_some_iff] at h
            obtain ⟨⟨l, hh, m⟩, hb, h⟩ := h
            simp only [OR.ok.injEq] at h
            obtain ⟨rfl, rfl⟩ := h
            rw [hx] at h1
            obtain ⟨v', hr, hv⟩ := sound_slcA (P := P) hu hs h1 hlo hhi hmx hw hg hb
            exact step_of hw hr hv
          · cases h
        · cases h
    · rename_i e hu
      simp only [Option.bind_eq_some_iff] at hc
      obtain ⟨s, hs, hc⟩ := hc
      split at hc
      · cases hc
      · rename_i hs0
        cases hc
        simp only [evOp, Option.map_eq_some_iff] at h
        obtain ⟨u, hsl, h⟩ := h
        simp only [OR.ok.injEq] at h
        obtain ⟨rfl, rfl⟩ := h
        obtain ⟨v', hr, hv⟩ := sound_slc (P := P) hu hs hs0 h1 hlo hhi hmx hw hsl
        exact step_of hw hr hv
    · rename_i hu
      split at hc
      · rename_i hmn
        cases hc
        simp only [evOp] at h
        split at h
        · rename_i s hx
          simp only [Option.map_eq_some_iff] at h
          obtain ⟨⟨l, hh, m⟩, hb, h⟩ := h
          simp only [OR.ok.injEq] at h
          obtain ⟨rfl, rfl⟩ := h
          rw [hx] at h1
          cases hcc : ρ' x <;> rw [hcc] at h1 <;> cases h1
          have hmn' : mx.map ρ' = none := by cases mx with
            | none => rfl
            | some _ => simp at hmn
          refine step_of hw (v' := .string (s.extract l hh)) ?_ (.string _)
          rw [hmn', hcc]
          exact sound_slcS hu hlo hhi hb
        · cases h
      · cases hc
    · cases hc
  case fieldAddr t x f =>
    simp only [compOp] at hc
    have h1 := hρ x (by simp [Op.operands])
    split at hc
    · rename_i fs hu
      split at hc
      · rename_i fd hf
        split at hc
        · cases hc
        · rename_i k hk0 hs
          cases hc
          simp only [evOp] at h
          split at h
          · rename_i b o hx
            simp only [Option.some.injEq, OR.ok.injEq] at h
            obtain ⟨rfl, rfl⟩ := h
            rw [hx] at h1
            cases k with
            | zero => first | exact (hk0 rfl).elim | exact (hk0 hs).elim
            | succ k =>
              obtain ⟨v', hr, hv⟩ := sound_off (P := P) (w := w) hu hf hs h1
              exact step_of hw hr hv
          · cases h
        · cases hc
      · cases hc
    · cases hc
  case field t x f =>
    simp only [compOp] at hc
    have h1 := hρ x (by simp [Op.operands])
    split at hc
    · rename_i fs hu
      split at hc
      · rename_i fd hf
        split at hc
        · rename_i b n ha hs
          cases hc
          simp only [evOp] at h
          split at h
          · rename_i cs hx
            rw [hx] at h1
            have hv : (if b then (if fd.offset + n ≤ cs.size then some (Value.agg (cs.extract fd.offset (fd.offset + n))) else none) else cs[fd.offset]?) = some v ∧ H' = H := by
              cases b with
              | true =>
                simp only [if_true] at h ⊢
                split at h
                · simp only [Option.some.injEq, OR.ok.injEq] at h
                  obtain ⟨rfl, rfl⟩ := h
                  rw [if_pos (by assumption)]
                  exact ⟨rfl, rfl⟩
                · cases h
              | false =>
                simp only [Bool.false_eq_true, if_false, Option.map_eq_some_iff] at h ⊢
                obtain ⟨u, hu, h⟩ := h
                simp only [OR.ok.injEq] at h
                obtain ⟨rfl, rfl⟩ := h
                exact ⟨hu, rfl⟩
            obtain ⟨hv, rfl⟩ := hv
            obtain ⟨v', hr, hvv⟩ := sound_field (P := P) (w := w) hu hf ha hs h1 hv
            exact step_of hw hr hvv
          · cases h
        · cases hc
      · cases hc
    · cases hc
  case indexAddr t x i =>
    simp only [compOp] at hc
    have h1 := hρ x (by simp [Op.operands])
    have h2 := hρ i (by simp [Op.operands])
    split at hc
    · rename_i n e hu
      simp only [Option.map_eq_some_iff] at hc
      obtain ⟨s, hs, rfl⟩ := hc
      simp only [evOp] at h
      split at h
      · rename_i b o kd j hx hi
        split at h
        · rename_i hj
          simp only [Option.some.injEq, OR.ok.injEq] at h
          obtain ⟨rfl, rfl⟩ := h
          rw [hx] at h1
          rw [hi] at h2
          obtain ⟨v', hr, hv⟩ := sound_ixA (P := P) (w := w) hu hs h1 h2 hj
          exact step_of hw hr hv
        · cases h
      · cases h
    · rename_i e hu
      simp only [Option.map_eq_some_iff] at hc
      obtain ⟨s, hs, rfl⟩ := hc
      simp only [evOp] at h
      split at h
      · rename_i b o sp n k kd j hx hi
        split at h
        · rename_i hj
          simp only [Option.some.injEq, OR.ok.injEq] at h
          obtain ⟨rfl, rfl⟩ := h
          rw [hx] at h1
          rw [hi] at h2
          obtain ⟨v', hr, hv⟩ := sound_ixS (P := P) (w := w) hu hs h1 h2 hj
          exact step_of hw hr hv
        · cases h
      · cases h
    · cases hc
  case index t x i =>
    simp only [compOp] at hc
    have h1 := hρ x (by simp [Op.operands])
    have h2 := hρ i (by simp [Op.operands])
    split at hc
    · rename_i n e hu
      split at hc
      · rename_i b s ha hs
        cases hc
        simp only [evOp] at h
        split at h
        · rename_i cs kd j hx hi
          split at h
          · rename_i hj
            rw [hx] at h1
            rw [hi] at h2
            have hv : (if b then (if j.toNat * s + s ≤ cs.size then some (Value.agg (cs.extract (j.toNat * s) (j.toNat * s + s))) else none) else cs[j.toNat * s]?) = some v ∧ H' = H := by
              cases b with
              | true =>
                simp only [if_true] at h ⊢
                split at h
                · simp only [Option.some.injEq, OR.ok.injEq] at h
                  obtain ⟨rfl, rfl⟩ := h
                  rw [if_pos (by assumption)]
                  exact ⟨rfl, rfl⟩
                · cases h
              | false =>
                simp only [Bool.false_eq_true, if_false, Option.map_eq_some_iff] at h ⊢
                obtain ⟨u, hu, h⟩ := h
                simp only [OR.ok.injEq] at h
                obtain ⟨rfl, rfl⟩ := h
                exact ⟨hu, rfl⟩
            obtain ⟨hv, rfl⟩ := hv
            obtain ⟨v', hr, hvv⟩ := sound_ixAgg (P := P) (w := w) hu ha hs h1 h2 hj hv
            exact step_of hw hr hvv
          · cases h
        · cases h
      · cases hc
    · rename_i hu
      cases hc
      simp only [evOp] at h
      split at h
      · rename_i s kd j hx hi
        split at h
        · rename_i hj
          simp only [Option.map_eq_some_iff] at h
          obtain ⟨u, hsu, h⟩ := h
          simp only [OR.ok.injEq] at h
          obtain ⟨rfl, rfl⟩ := h
          rw [hx] at h1
          rw [hi] at h2
          cases hcc : ρ' x <;> rw [hcc] at h1 <;> cases h1
          refine step_of hw (v' := .int .u8 u.toNat) ?_ (.int _ _)
          rw [hcc]
          exact sound_ixStr hu h2 hj hsu
        · cases h
      · cases h
    · cases hc
  case extract x i =>
    simp only [compOp] at hc
    cases hc
    have h1 := hρ x (by simp [Op.operands])
    simp only [evOp] at h
    split at h
    · rename_i vs hx
      simp only [Option.map_eq_some_iff] at h
      obtain ⟨u, hu, h⟩ := h
      simp only [OR.ok.injEq] at h
      obtain ⟨rfl, rfl⟩ := h
      rw [hx] at h1
      cases hcc : ρ' x <;> rw [hcc] at h1 <;> cases h1
      rename_i vs' hsz hA
      have hlt : i < vs'.size := by rw [← hsz]; exact (Array.getElem?_eq_some_iff.1 hu).1
      refine step_of hw (v' := vs'[i]) ?_ (hA i u _ hu (by simp [hlt]))
      simp only [hcc, Instr.extract, Array.getElem?_eq_getElem hlt, Sem.run_pure]
    · cases h
  case lookup t x i ok =>
    simp only [compOp] at hc
    have h1 := hρ x (by simp [Op.operands])
    have h2 := hρ i (by simp [Op.operands])
    split at hc
    · rename_i kt et hu
      split at hc
      · rename_i kd z hk hz
        cases hc
        have hH : H' = H := by
          simp only [evOp] at h
          repeat' split at h
          all_goals first | (cases h; done) | (simp only [Option.some.injEq, OR.ok.injEq] at h; exact h.2.symm)
        subst hH
        simp only [evOp] at h
        obtain ⟨v', hr, hv⟩ := sound_lookup (P := P) (H := H') (r := .ok v H') hu hk hz h1 h2 hw h
        exact step_of hw hr hv
      · cases hc
    · cases hc
  case mapUpdate t m k x =>
    simp only [compOp] at hc
    have h1 := hρ m (by simp [Op.operands])
    have h2 := hρ k (by simp [Op.operands])
    have h3 := hρ x (by simp [Op.operands])
    split at hc
    · rename_i kt et hu
      simp only [Option.map_eq_some_iff] at hc
      obtain ⟨kd, hk, rfl⟩ := hc
      simp only [evOp] at h
      split at h
      · rename_i r hm
        split at h
        · rename_i es c hg
          split at h
          · rename_i hfit
            rw [hm] at h1
            exact sound_mapUpd hu hk h1 h2 h3 hw hg hfit h
          · cases h
        · cases h
      · cases h
    · cases hc
  case insert t m k x =>
    simp only [compOp] at hc
    have h1 := hρ m (by simp [Op.operands])
    have h2 := hρ k (by simp [Op.operands])
    have h3 := hρ x (by simp [Op.operands])
    split at hc
    · rename_i kt et hu
      simp only [Option.map_eq_some_iff] at hc
      obtain ⟨kd, hk, rfl⟩ := hc
      simp only [evOp] at h
      split at h
      · rename_i r hm
        split at h
        · rename_i es c hg
          split at h
          · rename_i hfit
            rw [hm] at h1
            exact sound_mapUpd hu hk h1 h2 h3 hw hg hfit h
          · cases h
        · cases h
      · cases h
    · cases hc
  case range t x =>
    simp only [compOp] at hc
    have h1 := hρ x (by simp [Op.operands])
    split at hc
    · rename_i hu
      cases hc
      simp only [evOp] at h
      split at h
      · rename_i s hx
        simp only [Option.some.injEq, OR.ok.injEq] at h
        obtain ⟨rfl, rfl⟩ := h
        rw [hx] at h1
        cases hcc : ρ' x <;> rw [hcc] at h1 <;> cases h1
        have := sound_rangeS (ι := ι) (s := s) hu hw
        rw [← hcc] at this
        exact this
      · cases h
    · cases hc
  case next it st =>
    have h1 := hρ it (by simp [Op.operands])
    cases st <;> simp only [compOp] at hc <;> first | cases hc | skip
    simp only [evOp] at h
    split at h
    · rename_i r hx
      split at h
      · rename_i s pos hg
        rw [hx] at h1
        exact sound_nextS h1 hw hg h
      · cases h
    · cases h
  case typeAssert x xt t ok =>
    simp only [compOp] at hc
    have h1 := hρ x (by simp [Op.operands])
    split at hc
    · cases hc
    · rename_i d hni hu
      simp only [Option.map_eq_some_iff] at hc
      obtain ⟨z, hz, rfl⟩ := hc
      have hH : H' = H := by
        simp only [evOp] at h
        repeat' split at h
        all_goals first | (cases h; done) | (simp only [Option.some.injEq, OR.ok.injEq] at h; exact h.2.symm)
      subst hH
      simp only [evOp] at h
      obtain ⟨v', hr, hv⟩ := sound_assert (P := P) (H := H') (w := w) (xt := xt) ⟨d, hu, fun ms hd => by subst hd; first | exact (hni _ rfl).elim | exact (hni _ hu).elim⟩ hz h1 h
      exact step_of hw hr hv
    · cases hc
  case call c =>
    obtain ⟨callee, args, argTypes⟩ := c
    cases callee with
    | value f =>
      simp only [compOp] at hc
      cases hc
      simp only [evOp] at h
      split at h <;> cases h
    | invoke r m => simp [compOp] at hc
    | builtin b =>
      have harg : ∀ (j : Nat) (y : Operand), args[j]? = some y → VR ι (ρ y) (ρ' y) := fun j y hy => hρ y (by simp [Op.operands, Call.operands]; exact Array.mem_of_getElem? hy)
      obtain ⟨cs0, hex⟩ : ∃ cs0, (execOp ρ' ⟨dst, .call ⟨.builtin b, args, argTypes⟩, ty, pos, after, guard⟩).run P w = (builtin b argTypes ty cs0 (args.map ρ')).run P w := ⟨_, by
        simp only [execOp, resolve, Sem.run_bind, Sem.run_pure, Result.andThen_ok, invoke]; rfl⟩
      have hget : ∀ (j : Nat) (y : Operand), args[j]? = some y → (args.map ρ')[j]? = some (ρ' y) := fun j y hy => by simp [hy]
      rw [hex]
      clear hex
      cases b <;> simp only [compOp] at hc <;> first | cases hc | skip
      case append =>
        split at hc
        · rename_i sx xx e xt hs hx hst hxt
          split at hc
          · cases hc
          · rename_i i z hi hni hz
            cases hc
            simp only [evOp, Option.map_eq_some_iff] at h
            obtain ⟨⟨u, H2⟩, hap, h⟩ := h
            simp only [OR.ok.injEq] at h
            obtain ⟨rfl, rfl⟩ := h
            simp only [Option.bind_eq_some_iff] at hst hxt
            obtain ⟨st, hst0, hst⟩ := hst
            obtain ⟨xty, hxt0, hxt⟩ := hxt
            have := sound_append (P := P) (ty := ty) hst hxt (fun k hk => by subst hk; first | exact (hni _ rfl).elim | exact (hni _ _ rfl).elim | exact (hni _ _ hi rfl).elim | exact (hni _ _ rfl rfl).elim) hi hz (harg 0 _ hs) (harg 1 _ hx) hw hap
            have e1 : Builtin.append_ argTypes ty (args.map ρ') = Builtin.append_ #[st, xty] ty #[ρ' sx, ρ' xx] := by
              have a0 := hget 0 _ hs
              have a1 := hget 1 _ hx
              unfold Builtin.append_
              rw [hst0, hxt0, a0, a1]
              rfl
            have e2 : builtin .append argTypes ty cs0 (args.map ρ') = (do pure (.value (← Builtin.append_ argTypes ty (args.map ρ')))) := rfl
            rw [e2, e1]
            exact this
          · cases hc
        · cases hc
      case copy =>
        split at hc
        · rename_i dx sx e hd hs hdt
          simp only [Option.map_eq_some_iff] at hc
          obtain ⟨n, hn, rfl⟩ := hc
          simp only [Option.bind_eq_some_iff] at hdt
          obtain ⟨dt, hdt0, hdt⟩ := hdt
          simp only [evOp] at h
          have := sound_copy (P := P) (ty := ty) (st := 0) hdt hn (harg 0 _ hd) (harg 1 _ hs) hw h
          have e1 : Builtin.copy_ argTypes ty (args.map ρ') = Builtin.copy_ #[dt, 0] ty #[ρ' dx, ρ' sx] := by
            have a0 := hget 0 _ hd
            have a1 := hget 1 _ hs
            unfold Builtin.copy_
            rw [hdt0, a0, a1]
            rfl
          have e2 : builtin .copy argTypes ty cs0 (args.map ρ') = (do pure (.value (← Builtin.copy_ argTypes ty (args.map ρ')))) := rfl
          rw [e2, e1]
          exact this
        · cases hc
      case len =>
        have e2 : builtin .len argTypes ty cs0 (args.map ρ') = (do pure (.value (← Builtin.len_ argTypes ty (args.map ρ')))) := rfl
        rw [e2]
        split at hc
        · rename_i x hx ht
          simp only [Option.bind_eq_some_iff] at ht
          obtain ⟨t, ht0, ht⟩ := ht
          have h1 := harg 0 _ hx
          have a0 := hget 0 _ hx
          cases hc
          simp only [evOp] at h
          split at h
          case h_2 => cases h
          rename_i s hxs
          simp only [Option.some.injEq, OR.ok.injEq] at h
          obtain ⟨rfl, rfl⟩ := h
          rw [hxs] at h1
          cases hcc : ρ' x <;> rw [hcc] at h1 <;> cases h1
          refine step_of hw (v' := .int .i64 s.size) ?_ (.int _ _)
          unfold Builtin.len_
          rw [ht0, a0, hcc]
          simp only [Sem.run_bind, run_underlying ht, Result.andThen_ok, Sem.run_pure, goInt]
        · rename_i x e hx ht
          simp only [Option.bind_eq_some_iff] at ht
          obtain ⟨t, ht0, ht⟩ := ht
          have h1 := harg 0 _ hx
          have a0 := hget 0 _ hx
          cases hc
          simp only [evOp] at h
          split at h
          case h_2 => cases h
          rename_i b n k hxs
          simp only [Option.some.injEq, OR.ok.injEq] at h
          obtain ⟨rfl, rfl⟩ := h
          rw [hxs] at h1
          cases hcc : ρ' x <;> rw [hcc] at h1 <;> cases h1
          all_goals
            refine step_of hw (v' := .int .i64 (_ : Nat)) ?_ (.int _ _)
            unfold Builtin.len_
            rw [ht0, a0, hcc]
            simp only [Sem.run_bind, run_underlying ht, Result.andThen_ok, Sem.run_pure, goInt]
        · rename_i x k0 e hx ht
          simp only [Option.bind_eq_some_iff] at ht
          obtain ⟨t, ht0, ht⟩ := ht
          have h1 := harg 0 _ hx
          have a0 := hget 0 _ hx
          cases hc
          simp only [evOp] at h
          split at h
          · rename_i hxs
            simp only [Option.some.injEq, OR.ok.injEq] at h
            obtain ⟨rfl, rfl⟩ := h
            rw [hxs] at h1
            cases hcc : ρ' x <;> rw [hcc] at h1 <;> cases h1
            refine step_of hw (v' := .int .i64 0) ?_ (.int _ _)
            unfold Builtin.len_
            rw [ht0, a0, hcc]
            simp only [Sem.run_bind, run_underlying ht, Result.andThen_ok, Sem.run_pure, goInt]
          · rename_i r hxs
            split at h
            · rename_i es c hg
              simp only [Option.some.injEq, OR.ok.injEq] at h
              obtain ⟨rfl, rfl⟩ := h
              rw [hxs] at h1
              cases hcc : ρ' x <;> rw [hcc] at h1 <;> cases h1
              rename_i i hi
              obtain ⟨hro, es', hh, hlen, hrel⟩ := map_of hw hi hg
              refine step_of hw (v' := .int .i64 es.length) ?_ (.int _ _)
              unfold Builtin.len_
              rw [ht0, a0, hcc]
              have hgo : (getObj i.c).run P w = .ok (.map es' c) w := by simp [getObj, Sem.run, hh]
              simp only [Sem.run_bind, run_underlying ht, Result.andThen_ok, hgo, Sem.run_pure, goInt, hlen]
            · cases h
          · cases h
        · rename_i x n e hx ht
          simp only [Option.bind_eq_some_iff] at ht
          obtain ⟨t, ht0, ht⟩ := ht
          have a0 := hget 0 _ hx
          cases hc
          simp only [evOp, Option.some.injEq, OR.ok.injEq] at h
          obtain ⟨rfl, rfl⟩ := h
          refine step_of hw (v' := .int .i64 n) ?_ (.int _ _)
          unfold Builtin.len_
          rw [ht0, a0]
          simp only [Sem.run_bind, run_underlying ht, Result.andThen_ok, Sem.run_pure, goInt]
        · rename_i x e hx ht
          simp only [Option.bind_eq_some_iff] at ht
          obtain ⟨t, ht0, ht⟩ := ht
          have a0 := hget 0 _ hx
          split at hc
          · rename_i n e2 ht2
            cases hc
            simp only [evOp, Option.some.injEq, OR.ok.injEq] at h
            obtain ⟨rfl, rfl⟩ := h
            refine step_of hw (v' := .int .i64 n) ?_ (.int _ _)
            unfold Builtin.len_
            rw [ht0, a0]
            simp only [Sem.run_bind, run_underlying ht, run_underlying ht2, Result.andThen_ok, Sem.run_pure, goInt]
          · cases hc
        · cases hc
      case max =>
        split at hc
        · rename_i hsz
          split at hc
          · rename_i x y hx hy
            cases hc
            simp only [evOp, Option.map_eq_some_iff] at h
            obtain ⟨u, hu, h⟩ := h
            simp only [OR.ok.injEq] at h
            obtain ⟨rfl, rfl⟩ := h
            obtain ⟨hr, hv⟩ := mx2_run (P := P) (w := w) (harg 0 _ hx) (harg 1 _ hy) hu
            have e1 : args.map ρ' = #[ρ' x, ρ' y] := by
              apply Array.ext
              · simp [hsz]
              · intro j h1 h2
                have : j = 0 ∨ j = 1 := by simp at h2; omega
                have b0 : args[0]'(by omega) = x := by rw [Array.getElem?_eq_getElem (by omega)] at hx; exact Option.some.inj hx
                have b1 : args[1]'(by omega) = y := by rw [Array.getElem?_eq_getElem (by omega)] at hy; exact Option.some.inj hy
                rcases this with rfl | rfl
                · simp [b0]
                · simp [b1]
            rw [e1]
            exact step_of (s := Builtin.max_ argTypes ty #[ρ' x, ρ' y]) hw hr hv
          · cases hc
        · cases hc
      case min =>
        split at hc
        · rename_i hsz
          split at hc
          · rename_i x y hx hy
            cases hc
            simp only [evOp, Option.map_eq_some_iff] at h
            obtain ⟨u, hu, h⟩ := h
            simp only [OR.ok.injEq] at h
            obtain ⟨rfl, rfl⟩ := h
            obtain ⟨hr, hv⟩ := mn2_run (P := P) (w := w) (harg 0 _ hx) (harg 1 _ hy) hu
            have e1 : args.map ρ' = #[ρ' x, ρ' y] := by
              apply Array.ext
              · simp [hsz]
              · intro j h1 h2
                have : j = 0 ∨ j = 1 := by simp at h2; omega
                have b0 : args[0]'(by omega) = x := by rw [Array.getElem?_eq_getElem (by omega)] at hx; exact Option.some.inj hx
                have b1 : args[1]'(by omega) = y := by rw [Array.getElem?_eq_getElem (by omega)] at hy; exact Option.some.inj hy
                rcases this with rfl | rfl
                · simp [b0]
                · simp [b1]
            rw [e1]
            exact step_of (s := Builtin.min_ argTypes ty #[ρ' x, ρ' y]) hw hr hv
          · cases hc
        · cases hc
      all_goals
        simp only [evOp] at h
        cases h
  case defer c =>
    obtain ⟨callee, args, argTypes⟩ := c
    cases callee <;> simp only [compOp] at hc <;> first | cases hc | skip
    simp only [evOp] at h
    split at h <;> cases h
  case panic x =>
    simp only [compOp] at hc
    cases hc
    simp only [evOp] at h
    split at h <;> cases h
  all_goals simp [compOp] at hc
end Go.Proofs.YtehbekgmemebjaaDoorEv
