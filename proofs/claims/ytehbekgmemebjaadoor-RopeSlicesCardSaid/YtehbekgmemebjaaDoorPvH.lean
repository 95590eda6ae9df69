import Derived.Test.YtehbekgmemebjaaDoorPvG
namespace Go.Proofs.YtehbekgmemebjaaDoorEv
open Go
set_option linter.unusedVariables false
set_option linter.unusedSimpArgs false
def exE (A : AState) (x : Operand) (t : Ty) : Option (Pe A.ts → List t.den) := match opA A x with
  | some (.a a) => exR A a (.sl t)
  | _ => none
def strI (s : ByteArray) : List Int := s.data.toList.map fun b => (b.toNat : Int)
def exE8 (A : AState) (x : Operand) : Option (Pe A.ts → List Int) := match exE A x (.int .u8) with
  | some f => some f
  | none => match exO A x .str with
    | some f => some fun e => strI (f e)
    | none => none
def exEt (A : AState) (x : Operand) : (t : Ty) → Option (Pe A.ts → List t.den)
  | .int .u8 => exE8 A x
  | t => exE A x t
def bigB (n bytes : Nat) : Bool := decide (n * bytes > 35184372088832 ∨ n * 8 > 35184372088832)
def trAppend (A : AState) (d : Option Nat) (t : Ty) (ty size bytes : Nat) (s x : Operand) : Option (Nx A) := if t.w = size ∧ 0 < size then (match opA A s, exEt A x t with
  | some (.a .nil), some g => some (nxQ ⟨.sl t :: A.ts, setS A.sl d (.v (.a (.hd A.ob.length))), A.ob ++ [.sl t ty A.ts.length]⟩ (fun e => bigB (g e).length bytes) fun e => (g e, e))
  | some (.a (.hd j)), some g => match A.ob[j]? with
    | some (.sl u ty' l) => match lvT A.ts l (.sl t) with
      | some f => if ty' = ty then some (nxQ ⟨.sl t :: A.ts, setS A.sl d (.v (.a (.hd A.ob.length))), A.ob.set j .dead ++ [.sl t ty A.ts.length]⟩ (fun e => bigB ((f e).length + (g e).length) bytes) fun e => (f e ++ g e, e)) else none
      | none => none
    | _ => none
  | _, _ => none) else none
section
variable {H0 : Hp} {Z0 Z : Nat → Prop} {A : AState} {e : Pe A.ts} {s : St} {hv : Nat → Value} {d : Option Nat} {nx : Nx A}
theorem exE_ok (hs : SemD H0 Z0 A e s Z hv) {x : Operand} {t : Ty} {g : Pe A.ts → List t.den} (h : exE A x t = some g) : ∃ ps, All2 (Rep s.H Z t) (g e) ps ∧ sliceCells s.H t.w (s.env x) = some ps.flatten ∧ lenO (s.env x) = some (g e).length := by
  unfold exE at h
  split at h
  · rename_i a ha
    have h0 := opA_a hs ha
    have other : exA A a (.sl t) = some g → ∃ ps, All2 (Rep s.H Z t) (g e) ps ∧ sliceCells s.H t.w (s.env x) = some ps.flatten ∧ lenO (s.env x) = some (g e).length := fun h1 => rep_cells (exA_ok h1 h0)
    cases a with
    | hd j =>
      simp only [exR] at h
      split at h
      · rename_i u ty l hj
        obtain ⟨l', h1, h2⟩ := hs.ob j _ hj
        have h3 := lvT_lk e h
        rw [h1] at h3
        cases h3
        obtain ⟨_, _, h4⟩ := h0
        simp only [List.cons.injEq, and_true] at h4
        rw [h4]
        show ∃ ps, _ ∧ sliceCells s.H t.w (hv j) = _ ∧ _
        rcases h2 with ⟨h5, h6⟩ | ⟨b, o, sp, k, bc, uu, ps, rest, h5, q1, q2, q3, q4, q5, q6, q7, q8, q9, q10, q11⟩
        · rw [h6]; exact ⟨[], trivial, by rw [h5]; rfl, by show lenO (hv j) = _; rw [h5]; rfl⟩
        · refine ⟨ps, q7, ?_, by show lenO (hv j) = _; rw [h5]; rfl⟩
          rw [h5]
          have hlen := reps_len q7
          have hdl : bc.length - o = ps.flatten.length + rest.length := by rw [← List.length_drop, q6, List.length_append]
          simp only [sliceCells, q5]
          split
          · rename_i h0'
            have : ps.flatten = [] := List.eq_nil_of_length_eq_zero (by rw [hlen, h0', Nat.zero_mul])
            rw [this]
          · rename_i h0'
            have hpos : 0 < (g e).length * t.w := Nat.mul_pos (by omega) q11
            rw [if_pos (by rw [hlen] at hdl; omega), q6, ← hlen, List.take_left]
      · cases h
    | pu i => exact other (by simpa only [exR] using h)
    | cst l => exact other (by simpa only [exR] using h)
    | nil => exact other (by simpa only [exR] using h)
    | bp j off => exact other (by simpa only [exR] using h)
    | ep j i off w => exact other (by simpa only [exR] using h)
    | sp i off => exact other (by simpa only [exR] using h)
    | fn g => exact other (by simpa only [exR] using h)
    | ifc g => exact other (by simpa only [exR] using h)
    | ap j off i m w o2 => exact other (by simpa only [exR] using h)
  · cases h
theorem strI_reps {H : Hp} {Z : Nat → Prop} (l : List UInt8) : All2 (Rep H Z (.int .u8)) (l.map fun b => (b.toNat : Int)) (l.map fun b => [Value.int .u8 b.toNat]) := by
  induction l with
  | nil => exact trivial
  | cons a l ih => exact ⟨rfl, ih⟩
theorem strB_flat (l : List UInt8) : (l.map fun b => [Value.int .u8 b.toNat]).flatten = l.map fun b => Value.int .u8 b.toNat := by
  induction l with
  | nil => rfl
  | cons a l ih => rw [List.map_cons, List.flatten_cons, ih]; rfl
theorem exEt_ok (hs : SemD H0 Z0 A e s Z hv) {x : Operand} {t : Ty} {g : Pe A.ts → List t.den} (h : exEt A x t = some g) : ∃ ps, All2 (Rep s.H Z t) (g e) ps ∧ sliceCells s.H t.w (s.env x) = some ps.flatten ∧ lenO (s.env x) = some (g e).length := by
  unfold exEt at h
  split at h
  · unfold exE8 at h
    split at h
    · rename_i f hf
      cases h; exact exE_ok hs hf
    · split at h
      · rename_i f hf
        cases h
        rw [exO_str hs hf]
        refine ⟨_, strI_reps _, ?_, ?_⟩
        · rw [strB_flat]; rfl
        · simp only [lenO, strI, List.length_map]; rfl
      · cases h
  · exact exE_ok hs h
theorem own_append {H : Hp} {Z : Nat → Prop} {N : Nat} {t : Ty} {ty bytes : Nat} {v x : Value} {l l2 : List t.den} {ps : List (List Value)} (hN : N ≤ H.size) (hz : ∀ b, Z b → b < H.size) (hw0 : 0 < t.w) (ho : OwnSl H Z N t ty v l)
    (h1 : All2 (Rep H Z t) l2 ps) (h2 : sliceCells H t.w x = some ps.flatten) (h3 : lenO x = some l2.length) (hb : bigB (l.length + l2.length) bytes = false) :
    ∃ v' H', appendO H ty t.w bytes v x = some (v', H') ∧ OwnSl H' Z N t ty v' (l ++ l2) ∧ H.size ≤ H'.size ∧ (∀ c, c < H.size → blk v ≠ some c → H'.get c = H.get c) ∧ (∀ c, blk v' = some c → H.size ≤ c ∨ blk v = some c) ∧ ∃ base n k, v' = .slice base n k := by
  have hcell := reps_isCell h1
  have hlen := reps_len h1
  simp only [bigB, decide_eq_false_iff_not, not_or] at hb
  have copy : ∀ (n : Nat) (old : List Value) (k : Nat) (base : Option Addr) (H1 : Hp) (qs : List (List Value)), v = .slice base n k → n = l.length → ¬ (n + l2.length ≤ k) → sliceCells H t.w v = some old → old = qs.flatten → All2 (Rep H Z t) l qs → killO H ty t.w base = some H1 → H1.size = H.size →
      (∀ c, blk v ≠ some c → H1.get c = H.get c) → (∀ c, Z c → blk v ≠ some c) →
      ∃ v' H', appendO H ty t.w bytes v x = some (v', H') ∧ OwnSl H' Z N t ty v' (l ++ l2) ∧ H.size ≤ H'.size ∧ (∀ c, c < H.size → blk v ≠ some c → H'.get c = H.get c) ∧ (∀ c, blk v' = some c → H.size ≤ c ∨ blk v = some c) ∧ ∃ base n k, v' = .slice base n k := by
    intro n old k base H1 qs hv hn hk hold hqs hl hkill hs1 hg hzb
    subst hn
    have e1 : (l.length + l2.length) * bytes > 35184372088832 ∨ (l.length + l2.length) * 8 > 35184372088832 ∨ t.w = 0 ∨ ps.flatten.all isCell = false ↔ False := by
      rw [hcell]
      constructor
      · rintro (h | h | h | h)
        · exact hb.1 h
        · exact hb.2 h
        · omega
        · cases h
      · exact False.elim
    refine ⟨.slice (some ⟨H.size, 0, none⟩) (l.length + l2.length) (l.length + l2.length), H1.new (.cells (old ++ ps.flatten) ⟨t.w, ty, zO H base⟩ false), ?_, .inr ⟨H.size, 0, none, _, _, ⟨t.w, ty, zO H base⟩, qs ++ ps, [], by rw [List.length_append], by simp, hN, by rw [Hp.size_new]; omega, fun h => absurd (hz _ h) (Nat.lt_irrefl _), by rw [Hp.get_new, if_pos hs1],
      by simp [hqs], ?_, ?_, by rw [List.length_append]; exact Nat.le_refl _, .inr ⟨rfl, rfl⟩, hw0⟩, by rw [Hp.size_new]; omega, fun c hc hne => by rw [Hp.get_new, if_neg (by omega)]; exact hg c hne, fun c hc => by cases hc; exact .inl (Nat.le_refl _), _, _, _, rfl⟩
    · rw [hv] at hold
      rw [hv]
      simp only [appendO, h3, h2, hold, hkill, Option.bind_eq_bind, Option.bind_some, hk, if_false, e1, hs1]
    · exact (hl.append h1).mono fun _ _ => Rep.mono (fun _ h => h) (fun c hc => by rw [Hp.get_new, if_neg (by have := hz c hc; omega)]; exact hg c (hzb c hc)) _ _ _
    · rw [Nat.zero_add, List.length_append, hqs, hlen, reps_len hl, Nat.add_mul]; exact Nat.le_refl _
  rcases ho with ⟨rfl, rfl⟩ | ⟨b, o, sp, k, bc, u, qs, rest, rfl, q1, q2, q3, q4, q5, q6, q7, q8, q9, q10, q11⟩
  · by_cases h0 : l2.length = 0
    · have : l2 = [] := List.eq_nil_of_length_eq_zero h0
      subst this
      refine ⟨.slice none 0 0, H, ?_, .inl ⟨rfl, rfl⟩, Nat.le_refl _, (fun _ _ _ => rfl), (fun c hc => by cases hc), none, 0, 0, rfl⟩
      simp only [appendO, h3, h2, Option.bind_eq_bind, Option.bind_some]
      simp
    · exact copy 0 [] 0 none H [] rfl rfl (by omega) rfl rfl trivial rfl rfl (fun _ _ => rfl) (fun c _ h => by cases h)
  · have hql := reps_len q7
    have hb' : blk (.slice (some ⟨b, o, sp⟩) l.length k) = some b := rfl
    by_cases hk : l.length + l2.length ≤ k
    · by_cases h0 : l2.length = 0
      · have : l2 = [] := List.eq_nil_of_length_eq_zero h0
        subst this
        refine ⟨_, H, ?_, by rw [List.append_nil]; exact .inr ⟨b, o, sp, k, bc, u, qs, rest, rfl, q1, q2, q3, q4, q5, q6, q7, q8, q9, q10, q11⟩, Nat.le_refl _, fun _ _ _ => rfl, fun c hc => .inr hc, _, _, _, rfl⟩
        simp only [appendO, h3, h2, Option.bind_eq_bind, Option.bind_some]
        rw [if_pos hk]
        simp only [q5]
        rw [if_neg q1]
        simp
      · have hle : o + l.length * t.w + l2.length * t.w ≤ bc.length := by
          have : (l.length + l2.length) * t.w ≤ k * t.w := Nat.mul_le_mul_right _ hk
          rw [Nat.add_mul] at this
          omega
        have hset := setL_eq ps.flatten bc (o + l.length * t.w) (by rw [hlen]; exact hle)
        refine ⟨.slice (some ⟨b, o, sp⟩) (l.length + l2.length) k, H.put b (.cells (setL bc (o + l.length * t.w) ps.flatten) u false), ?_, .inr ⟨b, o, sp, k, _, u, qs ++ ps, bc.drop (o + l.length * t.w + ps.flatten.length), by rw [List.length_append], q1, q2, q3, q4, by rw [Hp.get_put, if_pos rfl], ?_, ?_, by rw [setL_length]; exact q8, by rw [List.length_append]; exact hk, q10, q11⟩, Nat.le_refl _, fun c _ hne => by
          rw [Hp.get_put, if_neg (by rintro rfl; exact hne rfl)], fun c hc => .inr hc, _, _, _, rfl⟩
        · simp only [appendO, h3, h2, Option.bind_eq_bind, Option.bind_some]
          rw [if_pos hk]
          simp only [q5]
          rw [if_neg q1, if_neg h0, if_pos ⟨trivial, hle, hcell⟩]
        · rw [hset, List.append_assoc, List.drop_append_of_le_length (by rw [List.length_take]; omega), List.drop_take, q6]
          have a1 : o + l.length * t.w - o = qs.flatten.length := by rw [hql]; omega
          rw [a1, List.take_left]
          simp
        · exact (q7.append h1).mono fun _ _ => Rep.mono (fun _ h => h) (fun c hc => by rw [Hp.get_put, if_neg (by rintro rfl; exact q4 hc)]) _ _ _
    · have hold : sliceCells H t.w (.slice (some ⟨b, o, sp⟩) l.length k) = some qs.flatten := by
        have hdl : bc.length - o = qs.flatten.length + rest.length := by rw [← List.length_drop, q6, List.length_append]
        simp only [sliceCells, q5]
        split
        · rename_i h0'
          have : qs.flatten = [] := List.eq_nil_of_length_eq_zero (by rw [hql, h0', Nat.zero_mul])
          rw [this]
        · rename_i h0'
          have hpos : 0 < l.length * t.w := Nat.mul_pos (by omega) q11
          rw [if_pos (by rw [hql] at hdl; omega), q6, ← hql, List.take_left]
      have hzb : ∀ c, Z c → blk (.slice (some ⟨b, o, sp⟩) l.length k) ≠ some c := fun c hc h => by
        rw [hb'] at h; cases h; exact q4 hc
      by_cases hsp : sp = some 1
      · exact copy _ _ k _ H qs rfl rfl hk hold rfl q7 (by simp only [killO, q5, hsp]; simp) rfl (fun _ _ => rfl) hzb
      · rcases q10 with hu | ⟨hu, hty⟩
        · exact copy _ _ k _ H qs rfl rfl hk hold rfl q7 (by simp only [killO, q5]; rw [if_neg q1, if_neg hsp, if_pos hu]) rfl (fun _ _ => rfl) hzb
        · exact copy _ _ k _ (H.put b .dead) qs rfl rfl hk hold rfl q7 (by simp only [killO, q5]; rw [if_neg q1, if_neg hsp, if_neg (by omega)]; simp [hu, hty]) rfl (fun c hne => by rw [Hp.get_put, if_neg (by rintro rfl; exact hne rfl)]) hzb
theorem trAppend_ok (hs : SemD H0 Z0 A e s Z hv) {t : Ty} {ty size bytes : Nat} {y x : Operand} (h : trAppend A d t ty size bytes y x = some nx) {e' : Pe nx.B.ts} (he : nx.F e = some e') : Did H0 Z0 A s d (.append ty size bytes y x) nx.B e' := by
  unfold trAppend at h
  split at h
  · rename_i hw
    obtain ⟨rfl, hw0⟩ := hw
    split at h
    · rename_i g hy hg
      cases h
      simp only [nxP, nxB, nxQ, nxT] at he
      split at he
      · cases he
      · rename_i hbig
        cases he
        have hy' : s.env y = .slice none 0 0 := by
          have := opA_a hs hy
          have : [s.env y] = [.slice none 0 0] := this
          simpa using this
        obtain ⟨ps, h1, h2, h3⟩ := exEt_ok hs hg
        obtain ⟨v', H', k1, k2, k3, k4, k5, base, n, k, k6⟩ := own_append (N := H0.size) (ty := ty) (bytes := bytes) (l := []) hs.keep.1 hs.zs hw0 (.inl ⟨rfl, rfl⟩) h1 h2 h3 (by simpa using hbig)
        refine ⟨v', H', by simp only [evOp, hy', k1, Option.map_some], (fun h => by simp [reads, hfree] at h), Z, _, hs.grow (Ex.push e _) ⟨k3, fun c hc => k4 c hc (fun h => by cases h)⟩ (o := .sl t ty A.ts.length) (v0 := v') ⟨_, lk_top e _, k2⟩ (fun b hb => by
          rcases k5 b hb with h | h
          · exact h
          · cases h) fun _ => ?_⟩
        exact ⟨by omega, ⟨base, n, k, (upH_at _ _).trans k6⟩, by show [v'] = [upH hv A.ob.length v' A.ob.length]; rw [upH_at]⟩
    · rename_i j g hy hg
      split at h
      · rename_i u ty' l hj
        split at h
        · rename_i f hf
          split at h
          · rename_i hty
            subst hty
            cases h
            simp only [nxP, nxB, nxQ, nxT] at he
            split at he
            · cases he
            · rename_i hbig
              cases he
              obtain ⟨_, _, hy'⟩ := opA_a hs hy
              simp only [List.cons.injEq, and_true] at hy'
              obtain ⟨ps, h1, h2, h3⟩ := exEt_ok hs hg
              obtain ⟨l', w1, w2⟩ := hs.ob j _ hj
              have w3 := lvT_lk e hf
              rw [w1] at w3
              cases w3
              obtain ⟨v', H', k1, k2, k3, k4, k5, base, n, k, k6⟩ := own_append (bytes := bytes) hs.keep.1 hs.zs hw0 w2 h1 h2 h3 (by simpa using hbig)
              have k1' : appendO s.H ty' t.w bytes (hv j) (s.env x) = some (v', H') := k1
              refine ⟨v', H', by simp only [evOp, hy', k1', Option.map_some], (fun h => by simp [reads, hfree] at h), Z, _, hs.move (Ex.push e _) hj rfl k3 k4 (o' := .sl _ ty' A.ts.length) (v0 := v') ⟨_, lk_top e _, k2⟩ k5 fun _ => ?_⟩
              exact ⟨by omega, ⟨base, n, k, (upH_at _ _).trans k6⟩, by show [v'] = [upH hv A.ob.length v' A.ob.length]; rw [upH_at]⟩
          · cases h
        · cases h
      · cases h
    · cases h
  · cases h
end
end Go.Proofs.YtehbekgmemebjaaDoorEv
