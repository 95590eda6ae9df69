import Derived.Test.YtehbekgmemebjaaDoorEvE
import Derived.Laws.BytesString
namespace Go.Proofs.YtehbekgmemebjaaDoorEv
open Go
set_option linter.unusedVariables false
set_option linter.unusedSimpArgs false
variable {P : Program} {GL : List Nat} {ι : Inj} {H : Hp} {w : World}
theorem sound_bin {op : BinOp} {t : TypeId} {X Y : Operand} {x y x' y' v : Value} (hx : VR ι x x') (hy : VR ι y y') (h : binO op x y = some v) :
    ∃ v', (do eqGuard op t X Y x' y'; binOp op t x' y' : Sem Value).run P w = .ok v' w ∧ VR ι v v' := by
  have key : (∃ k a k2 b, x = .int k a ∧ y = .int k2 b) ∨ (∃ a b, x = .string a ∧ y = .string b) := by
    unfold binO at h
    split at h
    · exact .inl ⟨_, _, _, _, rfl, rfl⟩
    · exact .inl ⟨_, _, _, _, rfl, rfl⟩
    · exact .inl ⟨_, _, _, _, rfl, rfl⟩
    · exact .inr ⟨_, _, rfl, rfl⟩
    · cases h
  have hg : (eqGuard op t X Y x' y').run P w = .ok () w := by
    rcases key with ⟨k, a, k2, b, rfl, rfl⟩ | ⟨a, b, rfl, rfl⟩
    · cases hx; cases hy
      unfold eqGuard
      split <;> rfl
    · cases hx; cases hy
      unfold eqGuard
      split <;> rfl
  simp only [Sem.run_bind, hg, Result.andThen_ok]
  clear hg
  rcases key with ⟨k, a, k2, b, rfl, rfl⟩ | ⟨a, b, rfl, rfl⟩
  · cases hx; cases hy
    by_cases hsh : op = .shl ∨ op = .shr
    · rcases hsh with rfl | rfl
      · simp only [binO] at h
        split at h
        · cases h
        · rename_i hz
          cases h
          exact ⟨_, by simp only [binOp, Op.shift, if_neg hz, Sem.run_pure]; rfl, by constructor⟩
      · simp only [binO] at h
        split at h
        · cases h
        · rename_i hz
          cases h
          exact ⟨_, by simp only [binOp, Op.shift, if_neg hz, Sem.run_pure]; rfl, by constructor⟩
    · have hkk : k = k2 := by
        cases op <;> simp only [binO] at h <;> first
          | (exfalso; apply hsh; simp; done)
          | (split at h
             · cases h
             · rename_i hne
               simpa using hne)
      subst hkk
      cases op <;> simp only [binO, ne_eq, not_true_eq_false, if_false] at h <;> first
        | (exfalso; apply hsh; simp; done)
        | (cases h; exact ⟨_, by simp only [binOp, ne_eq, not_true_eq_false, if_false, Op.intArith, Op.intBits, Op.intCmp, Sem.run_pure]; rfl, by constructor⟩)
        | (split at h
           · cases h
           · rename_i hz
             cases h
             exact ⟨_, by simp only [binOp, ne_eq, not_true_eq_false, if_false, Op.intDiv, if_neg hz, Sem.run_pure]; rfl, by constructor⟩)
  · cases hx; cases hy
    cases op <;> simp only [binO] at h <;> first
      | (split at h
         · cases h
         · rename_i hz
           cases h
           exact ⟨_, by simp only [binOp, Op.stringOp, if_neg hz, Sem.run_pure]; rfl, by constructor⟩)
      | (cases h; exact ⟨_, by simp only [binOp, Op.stringOp, Sem.run_pure]; rfl, by constructor⟩)
      | cases h
theorem sound_un {op : UnOp} {x x' v : Value} (hx : VR ι x x') (h : unO op x = some v) : ∃ v', (Op.unary op x').run P w = .ok v' w ∧ VR ι v v' := by
  unfold unO at h
  split at h
  · cases h; cases hx; exact ⟨_, rfl, by constructor⟩
  · cases h; cases hx; exact ⟨_, rfl, by constructor⟩
  · cases h; cases hx; exact ⟨_, rfl, by constructor⟩
  · cases h
def kindOf : TypeDesc → Option Nat
  | .bool => some 0
  | .pointer _ => some 1
  | .slice _ => some 2
  | .map _ _ => some 3
  | .func _ _ _ => some 4
  | .interface _ => some 5
  | _ => none
theorem sound_equal {t : TypeId} {d : TypeDesc} {kind : Nat} {x y x' y' : Value} {b : Bool} (hu : P.underlying t = some d) (hk : kindOf d = some kind) (hx : VR ι x x') (hy : VR ι y y') (h : eqO kind x y = some b) :
    (Op.equal t x' y').run P w = .ok b w := by
  show (Op.equalIn (9999 + 1) t x' y').run P w = .ok b w
  unfold Op.equalIn
  simp only [Sem.run_bind, run_underlying hu, Result.andThen_ok]
  cases d <;> simp [kindOf] at hk <;> subst hk <;> unfold eqO at h <;> split at h <;> (try cases h) <;> (try (rename_i hq; cases hq)) <;> (try cases hx) <;> (try cases hy) <;> first
    | rfl
    | (rename_i a b; cases a <;> cases b <;> rfl)
    | (simp_all; done)
    | contradiction
theorem sound_eq {op : BinOp} (hop : op = .eql ∨ op = .neq) {t : TypeId} {d : TypeDesc} {kind : Nat} {X Y : Operand} {x y x' y' : Value} {b : Bool} (hu : P.underlying t = some d) (hk : kindOf d = some kind) (hX : kind = 5 → (∃ c, X = .const c) ∨ (∃ c, Y = .const c)) (hx : VR ι x x') (hy : VR ι y y') (h : eqO kind x y = some b) :
    (do eqGuard op t X Y x' y'; binOp op t x' y' : Sem Value).run P w = .ok (.bool (if op == .neq then !b else b)) w := by
  have he := sound_equal (w := w) hu hk hx hy h
  have hg : (eqGuard op t X Y x' y').run P w = .ok () w := by
    rcases hop with rfl | rfl <;> (unfold eqGuard; simp only [Bool.not_true, Bool.false_eq_true, if_false]) <;> (unfold eqO at h; split at h) <;> (try cases h) <;> cases hx <;> cases hy <;> first
      | rfl
      | (rcases hX rfl with ⟨c, rfl⟩ | ⟨c, rfl⟩ <;> (try rfl) <;> (cases X <;> rfl))
  have hb : binOp op t x' y' = if op == .neq then (do pure (.bool (!(← Op.equal t x' y')))) else (do pure (.bool (← Op.equal t x' y'))) := by
    rcases hop with rfl | rfl <;> (unfold eqO at h; split at h) <;> (try cases h) <;> cases hx <;> cases hy <;> rfl
  simp only [Sem.run_bind, hg, Result.andThen_ok, hb]
  rcases hop with rfl | rfl
  · simp only [beq_iff_eq, reduceCtorEq, if_false, Sem.run_bind, he, Result.andThen_ok, Sem.run_pure]
  · simp only [beq_self_eq_true, if_true, Sem.run_bind, he, Result.andThen_ok, Sem.run_pure]
theorem intsO_eq : ∀ (l l' : List Value) (ns : List Int), VL ι l l' → intsO l = some ns → l' = ns.map (Value.int .u8) := by
  intro l
  induction l with
  | nil => intro l' ns hv h; cases l' with
    | nil => simp [intsO] at h; subst h; rfl
    | cons _ _ => simp [VL] at hv
  | cons v r ih =>
    intro l' ns hv h
    cases l' with
    | nil => simp [VL] at hv
    | cons v' r' =>
      simp only [intsO, List.mapM_cons, Option.bind_eq_bind, Option.bind_eq_some_iff, Option.pure_def] at h
      obtain ⟨n, hn, ns', hr, h⟩ := h
      cases h
      split at hn
      · cases hn
        have h0 := hv.2 0 _ _ rfl rfl
        cases h0
        rw [ih r' ns' ⟨by simpa using hv.1, fun j a b x y => hv.2 (j + 1) a b (by simpa using x) (by simpa using y)⟩ hr]
        rfl
      · cases hn
theorem sliceCells_run {size : Nat} {x x' : Value} {l : List Value} (hx : VR ι x x') (hw : WR GL ι H w) (h : sliceCells H size x = some l) (n : Nat) (hn : lenO x = some n) :
    ∃ l', VL ι l l' ∧ l.length = n * size ∧ ∀ w1 : World, w1.heap = w.heap → (Builtin.firstCells size n x').run P w1 = .ok l'.toArray w1 := by
  unfold sliceCells at h
  split at h
  · cases h; cases hx
    simp [lenO] at hn; subst hn
    exact ⟨[], ⟨rfl, fun j v v' e => by simp at e⟩, by simp, fun _ _ => rfl⟩
  · rename_i b o sp n0 k
    simp [lenO] at hn; subst hn
    cases hx with
    | slice _ _ _ _ _ i a k' hi hns hnk hk ha =>
      split at h
      · rename_i h0
        cases h; subst h0
        exact ⟨[], ⟨rfl, fun j v v' e => by simp at e⟩, by simp, fun _ _ => by simp [Builtin.firstCells, loadCells, loadCellsFrom]⟩
      · rename_i h0
        split at h
        · rename_i cs u ro hg
          split at h
          · rename_i hle
            cases h
            obtain ⟨l', hl, hv, hc⟩ := cells_of hw hi hg hle
            refine ⟨l', hv, by rw [hv.1, hl], fun w1 hw1 => ?_⟩
            have hk0 : k' ≠ 0 := by
              rcases hk with hk | hk
              · omega
              · omega
            have := run_loadCells_list (P := P) w1 _ l' (fun j v e => by
              have := hc j v e
              simpa [World.cell?, hw1] using this)
            rw [hl] at this
            simp only [Builtin.firstCells, ha (.inl hk0), this]
          · cases h
        · cases h
    | arg _ _ _ A k' hnk ha =>
      split at h
      · rename_i h0
        cases h; subst h0
        exact ⟨[], ⟨rfl, fun j v v' e => by simp at e⟩, by simp, fun _ _ => by cases A <;> simp [Builtin.firstCells, loadCells, loadCellsFrom]⟩
      · rename_i h0
        obtain ⟨i, hi, rfl⟩ := ha h0
        split at h
        · rename_i cs u ro hg
          split at h
          · rename_i hle
            cases h
            obtain ⟨l', hl, hv, hc⟩ := cells_of hw hi hg hle
            refine ⟨l', hv, by rw [hv.1, hl], fun w1 hw1 => ?_⟩
            have := run_loadCells_list (P := P) w1 _ l' (fun j v e => by
              have := hc j v e
              simpa [World.cell?, hw1] using this)
            rw [hl] at this
            simp only [Builtin.firstCells, this]
          · cases h
        · cases h
  · rename_i s
    split at h
    · rename_i h1
      cases h; cases hx
      simp [lenO] at hn; subst hn; subst h1
      refine ⟨s.data.toList.map fun b => Value.int .u8 b.toNat, ⟨rfl, fun j v v' e e' => ?_⟩, by simp only [List.length_map, Nat.mul_one]; rfl, fun w1 hw1 => ?_⟩
      · rw [e] at e'; cases e'
        simp only [List.getElem?_map, Option.map_eq_some_iff] at e
        obtain ⟨_, _, rfl⟩ := e
        exact .int _ _
      · simp only [Builtin.firstCells, Sem.run_pure]
        congr 1
        have : s.extract 0 s.size = s := by simp
        rw [this]
        apply Array.ext'
        simp
    · cases h
  · cases h
theorem sound_convBS {s d e : TypeId} {b : Option Addr} {n k : Nat} {x' : Value} {l : List Value} {ns : List Int} (hs : P.underlying s = some (.slice e)) (he : P.underlying e = some (.int .u8)) (hd : P.underlying d = some .string)
    (hx : VR ι (.slice b n k) x') (hw : WR GL ι H w) (h : sliceCells H 1 (.slice b n k) = some l) (hn : intsO l = some ns) : (convert s d x').run P w = .ok (.string (strOfNums ns)) w := by
  obtain ⟨l', hv, hlen, hr0⟩ := sliceCells_run (P := P) hx hw h n rfl
  have hr := hr0 w rfl
  clear hr0
  have hl' := intsO_eq l l' ns hv hn
  subst hl'
  cases hx with
  | snil =>
    rw [run_convert_bytes_string w s d e _ _ _ hs he hd]
    simp at hlen
    subst hlen
    simp [intsO] at hn
    subst hn
    rfl
  | slice _ _ _ _ _ i a k' hi hns hnk hk ha =>
    rw [run_convert_bytes_string w s d e _ _ _ hs he hd]
    simp only [Builtin.firstCells, Nat.mul_one] at hr
    rw [run_bytesToString w a n k' ns hr, foldl_push_bytes]
    simp [strOfNums, ByteArray.empty, ByteArray.emptyWithCapacity]
    try rfl
  | arg _ _ _ A k' hnk ha =>
    rw [run_convert_bytes_string w s d e _ _ _ hs he hd]
    cases A with
    | none =>
      have h0 : n = 0 := by
        by_cases h0 : n = 0
        · exact h0
        · obtain ⟨_, _, h⟩ := ha h0
          cases h
      subst h0
      simp at hlen
      subst hlen
      simp [intsO] at hn
      subst hn
      rfl
    | some a =>
      simp only [Builtin.firstCells, Nat.mul_one] at hr
      rw [run_bytesToString w a n k' ns hr, foldl_push_bytes]
      simp [strOfNums, ByteArray.empty, ByteArray.emptyWithCapacity]
      try rfl
end Go.Proofs.YtehbekgmemebjaaDoorEv
