import Derived.Test.YtehbekgmemebjaaDoorPvI
namespace Go.Proofs.YtehbekgmemebjaaDoorEv
open Go
set_option linter.unusedVariables false
set_option linter.unusedSimpArgs false
def ArgsOK (H : Hp) (Z : Nat → Prop) : (ts : List Ty) → Pe ts → List Value → Prop
  | [], _, [] => True
  | t :: r, e, v :: vs => RepV H Z t e.1 v ∧ ArgsOK H Z r e.2 vs
  | _, _, _ => False
@[reducible] def tys : List (Ty × Option Nat) → List Ty
  | [] => []
  | (t, _) :: r => t :: tys r
def OwnT (H : Hp) (Z : Nat → Prop) (N ty : Nat) (v : Value) : (t : Ty) → t.den → Prop
  | .sl u, x => OwnSl H Z N u ty v x
  | _, _ => False
def RsOK (H : Hp) (Z : Nat → Prop) (N : Nat) : (rs : List (Ty × Option Nat)) → Pe (tys rs) → List Value → Prop
  | [], _, [] => True
  | (t, none) :: r, e, v :: vs => RepV H Z t e.1 v ∧ RsOK H Z N r e.2 vs
  | (t, some ty) :: r, e, v :: vs => OwnT H Z N ty v t e.1 ∧ RsOK H Z N r e.2 vs
  | _, _, _ => False
def packV : List Value → Value
  | [v] => v
  | vs => .tuple vs.toArray
structure PC (K : Caller) (G : Hp → Prop) where
  f : Nat
  args : List Ty
  res : List (Ty × Option Nat)
  F : Nat → Pe args → Option (Pe (tys res))
  ok : ∀ (k : Nat) (H : Hp) (Z : Nat → Prop) (e : Pe args) (vs : List Value), G H → (∀ b, Z b → b < H.size) → ArgsOK H Z args e vs → ∀ r, F k e = some r →
    ∃ v H' Z' ws, K f vs.toArray H = some (.ret v H') ∧ Kept H H' ∧ (∀ b, Z b → Z' b) ∧ (∀ b, Z' b → b < H'.size) ∧ (∀ b, Z' b → b < H.size → Z b) ∧ v = packV ws ∧ RsOK H' Z' H.size res r ws
def findP {K : Caller} {G : Hp → Prop} : List (PC K G) → Nat → Option (PC K G)
  | [], _ => none
  | p :: r, f => if p.f = f then some p else findP r f
theorem findP_f {K : Caller} {G : Hp → Prop} : ∀ {l : List (PC K G)} {f : Nat} {p : PC K G}, findP l f = some p → p.f = f
  | [], _, _, h => by cases h
  | q :: r, f, p, h => by
    simp only [findP] at h
    split at h
    · cases h; assumption
    · exact findP_f h
def Ty.flat : Ty → Bool
  | .sl _ => false
  | .pair a b => a.flat && b.flat
  | .arr _ t => t.flat
  | _ => true
def flatR : List (Ty × Option Nat) → Bool
  | [] => true
  | (t, o) :: r => (match o, t with
    | none, t => t.flat
    | some _, .sl u => u.flat
    | _, _ => false) && flatR r
theorem Rep.flat {H H' : Hp} {Z Z' : Nat → Prop} : ∀ {t : Ty} {x : t.den} {cs : List Value}, t.flat = true → Rep H Z t x cs → Rep H' Z' t x cs := by
  intro t
  induction t with
  | int k => intro x cs _ h; exact h
  | bool => intro x cs _ h; exact h
  | str => intro x cs _ h; exact h
  | unit => intro x cs _ h; exact h
  | sl t _ => intro x cs h; cases h
  | pair a b iha ihb =>
    intro x cs hf h
    simp only [Ty.flat, Bool.and_eq_true] at hf
    obtain ⟨c, d, e1, h1, h2⟩ := h
    exact ⟨c, d, e1, iha hf.1 h1, ihb hf.2 h2⟩
  | arr n t ih =>
    intro x cs hf h
    obtain ⟨ps, e1, e2, h2⟩ := h
    exact ⟨ps, e1, e2, h2.mono fun _ _ => ih hf⟩
theorem RepV.flat {H H' : Hp} {Z Z' : Nat → Prop} {t : Ty} {x : t.den} {v : Value} (hf : t.flat = true) (h : RepV H Z t x v) : RepV H' Z' t x v := by
  unfold RepV at *
  split
  · rename_i ha
    rw [if_pos ha] at h
    obtain ⟨cs, e, r⟩ := h
    exact ⟨cs, e, r.flat hf⟩
  · rename_i ha
    rw [if_neg ha] at h
    exact Rep.flat hf h
theorem RsOK.flat {H : Hp} {Z Z' : Nat → Prop} {N : Nat} (hz : ∀ b, Z' b → Z b) : ∀ {rs : List (Ty × Option Nat)} {e : Pe (tys rs)} {vs : List Value}, flatR rs = true → RsOK H Z N rs e vs → RsOK H Z' N rs e vs
  | [], _, [], _, _ => trivial
  | (t, none) :: r, e, v :: vs, hf, ⟨h1, h2⟩ => by
    simp only [flatR, Bool.and_eq_true] at hf
    exact ⟨h1.flat hf.1, RsOK.flat hz hf.2 h2⟩
  | (.sl u, some ty) :: r, e, v :: vs, hf, ⟨h1, h2⟩ => by
    simp only [flatR, Bool.and_eq_true] at hf
    refine ⟨?_, RsOK.flat hz hf.2 h2⟩
    have h1' : OwnSl H Z N u ty v e.1 := h1
    rcases h1' with h | ⟨b, o, sp, k, bc, u', ps, rest, a1, a2, a3, a4, a5, a6, a7, a8, a9, a10, a11, a12⟩
    · exact .inl h
    · exact .inr ⟨b, o, sp, k, bc, u', ps, rest, a1, a2, a3, a4, fun h => a5 (hz b h), a6, a7, a8.mono fun _ _ => Rep.flat hf.1, a9, a10, a11, a12⟩
  | (.int _, some _) :: _, _, _ :: _, _, ⟨h, _⟩ => h.elim
  | (.bool, some _) :: _, _, _ :: _, _, ⟨h, _⟩ => h.elim
  | (.str, some _) :: _, _, _ :: _, _, ⟨h, _⟩ => h.elim
  | (.unit, some _) :: _, _, _ :: _, _, ⟨h, _⟩ => h.elim
  | (.pair _ _, some _) :: _, _, _ :: _, _, ⟨h, _⟩ => h.elim
  | (.arr _ _, some _) :: _, _, _ :: _, _, ⟨h, _⟩ => h.elim
  | [], _, _ :: _, _, h => h.elim
  | (_, none) :: _, _, [], _, h => h.elim
  | (_, some _) :: _, _, [], _, h => h.elim
def exW (A : AState) (fl : Bool) (x : Operand) (t : Ty) : Option (Pe A.ts → t.den) := match opA A x with
  | some (.a a) => if t.isAgg then none else if fl then exR A a t else exA A a t
  | some (.g l) => if t.isAgg then exS A l t else none
  | none => none
def argsF (A : AState) (fl : Bool) : List Operand → (ts : List Ty) → Option (Pe A.ts → Pe ts)
  | [], [] => some fun _ => ()
  | x :: xs, t :: ts => match exW A fl x t, argsF A fl xs ts with
    | some f, some g => some fun e => (f e, g e)
    | _, _ => none
  | _, _ => none
def rsT : List (Ty × Option Nat) → List Ty → List Ty
  | [], ts => ts
  | (t, _) :: r, ts => rsT r (expT t ts)
def rsF : (rs : List (Ty × Option Nat)) → (ts : List Ty) → Pe (tys rs) → Pe ts → Pe (rsT rs ts)
  | [], _, _, e => e
  | (t, _) :: r, ts, x, e => rsF r (expT t ts) x.2 (expF t ts x.1 e)
def rsL : List (Ty × Option Nat) → List Ty → Nat → List AV1
  | [], _, _ => []
  | (t, none) :: r, ts, m => (if t.isAgg then .g (expL t ts.length) else .a (.pu ts.length)) :: rsL r (expT t ts) m
  | (t, some _) :: r, ts, m => .a (.hd m) :: rsL r (expT t ts) (m + 1)
def rsO : List (Ty × Option Nat) → List Ty → List Ob
  | [], _ => []
  | (t, none) :: r, ts => rsO r (expT t ts)
  | (t, some ty) :: r, ts => (match t with
    | .sl u => .sl u ty ts.length
    | _ => .dead) :: rsO r (expT t ts)
def packA : List AV1 → AV
  | [x] => .v x
  | l => .tp l
def ownN : List (Ty × Option Nat) → Nat
  | [] => 0
  | (_, o) :: r => (if o.isSome then 1 else 0) + ownN r
def trCall {K : Caller} {G : Hp → Prop} (k : Nat) (A : AState) (d : Option Nat) (p : PC K G) (args : List Operand) : Option (Nx A) := match argsF A (flatR p.res) args p.args with
  | some g => if ownN p.res ≤ 1 then some (nxB ⟨rsT p.res A.ts, setS A.sl d (packA (rsL p.res A.ts A.ob.length)), A.ob ++ rsO p.res A.ts⟩ (fun e => p.F k (g e)) fun e r => rsF p.res A.ts r e) else none
  | none => none
section
variable {H0 : Hp} {Z0 Z : Nat → Prop} {A : AState} {e : Pe A.ts} {s : St} {hv : Nat → Value} {d : Option Nat} {nx : Nx A} {K : Caller} {G : Hp → Prop}
theorem nx_nx (s : St) (H H' : Hp) (d : Option Nat) (v u : Value) : (s.nx H none u).nx H' d v = s.nx H' d v := by
  rw [nx_eq, nx_eq, nx_eq]; cases d <;> rfl
theorem argsF_ok (hs : SemD H0 Z0 A e s Z hv) {fl : Bool} {Zc : Nat → Prop} (hz : ∀ b, Z b → Zc b) (hfl : fl = true → ∀ b, Zx A Z hv b → Zc b) : ∀ {xs : List Operand} {ts : List Ty} {g : Pe A.ts → Pe ts}, argsF A fl xs ts = some g → ArgsOK s.H Zc ts (g e) (xs.map s.env)
  | [], [], g, h => trivial
  | x :: xs, t :: ts, g, h => by
    simp only [argsF] at h
    split at h
    · rename_i f g' hf hg
      cases h
      refine ⟨?_, argsF_ok hs hz hfl hg⟩
      unfold exW at hf
      unfold RepV
      split at hf
      · rename_i a ha
        split at hf
        · cases hf
        · rename_i hag
          rw [if_neg hag]
          split at hf
          · rename_i hf'
            exact Rep.mono (hfl hf') (fun _ _ => rfl) _ _ _ (exR_ok hs hf (opA_a hs ha))
          · exact Rep.mono hz (fun _ _ => rfl) _ _ _ (exA_ok hf (opA_a hs ha))
      · rename_i l hl
        split at hf
        · rename_i hag
          rw [if_pos hag]
          obtain ⟨cs, h1, h2⟩ := opA_ok hs hl
          exact ⟨cs, h1, Rep.mono hz (fun _ _ => rfl) _ _ _ (exS_ok hf h2)⟩
        · cases hf
      · cases hf
    · cases h
  | [], _ :: _, g, h => by simp [argsF] at h
  | _ :: _, [], g, h => by simp [argsF] at h
theorem rs_ok : ∀ (rs : List (Ty × Option Nat)) {A : AState} {e : Pe A.ts} {s : St} {Z : Nat → Prop} {hv : Nat → Value} {N : Nat} {r : Pe (tys rs)} {ws : List Value}, SemD H0 Z0 A e s Z hv → N ≥ H0.size → RsOK s.H Z N rs r ws →
    (∀ j o b, A.ob[j]? = some o → o.live = true → blk (hv j) = some b → b < N) → ownN rs ≤ 1 →
    ∃ hv', SemD H0 Z0 ⟨rsT rs A.ts, A.sl, A.ob ++ rsO rs A.ts⟩ (rsF rs A.ts r e) s Z hv' ∧ (∀ j, j < A.ob.length → hv' j = hv j) ∧ Ex e (rsF rs A.ts r e) ∧ All2 (AV1OK ⟨s.H, Z, hv'⟩ (rsF rs A.ts r e) (A.ob.length + (rsO rs A.ts).length)) (rsL rs A.ts A.ob.length) ws
  | [], A, e, s, Z, hv, N, r, [], h, _, _, _, _ => ⟨hv, (by
      have e0 : A.ob ++ rsO [] A.ts = A.ob := List.append_nil _
      rw [e0]; exact h), fun _ _ => rfl, Ex.refl e, trivial⟩
  | (t, none) :: rs, A, e, s, Z, hv, N, r, v :: ws, h, hN, ⟨h1, h2⟩, hlt, hc => by
    have hrep : Rep s.H Z t r.1 v.cells.toList := h1.cells
    obtain ⟨e1, e2⟩ := exp_ok (e := e) (hv := hv) (n := A.ob.length) hrep
    have hs : s.nx s.H none undef = s := by rw [nx_eq]; rfl
    have h' : SemD H0 Z0 ⟨expT t A.ts, A.sl, A.ob⟩ (expF t A.ts r.1 e) s Z hv := by
      have := h.pure (d := none) (v := undef) (a := .un) e2 (fun h => by cases h)
      rwa [hs] at this
    obtain ⟨hv', q1, q2, q3, q4⟩ := rs_ok rs h' hN h2 hlt (by simp [ownN] at hc; omega)
    refine ⟨hv', q1, q2, e2.trans q3, ?_, q4⟩
    have g : Grow ⟨s.H, Z, hv⟩ ⟨s.H, Z, hv'⟩ (expF t A.ts r.1 e) (rsF rs (expT t A.ts) r.2 (expF t A.ts r.1 e)) A.ob.length (A.ob.length + (rsO rs (expT t A.ts)).length) := ⟨fun _ h => h, fun _ _ => rfl, q2, by omega, q3⟩
    unfold RepV at h1
    by_cases ha : t.isAgg = true
    · rw [if_pos ha] at h1
      simp only [ha, if_true]
      obtain ⟨cs, rfl, _⟩ := h1
      exact AV1OK.mono g ⟨cs, rfl, e1⟩
    · rw [if_neg ha] at h1
      simp only [ha]
      have e3 : expL t A.ts.length = [.pu A.ts.length] := by cases t <;> first | rfl | exact absurd rfl ha
      rw [e3] at e1
      have e4 : v.cells.toList = [v] := by
        have hic := Rep.isCell _ _ _ h1
        exact cell_cells (by simpa using hic)
      rw [e4] at e1
      exact AV1OK.mono g (a := .a (.pu A.ts.length)) e1.one
  | (t, some ty) :: rs, A, e, s, Z, hv, N, r, v :: ws, h, hN, ⟨h1, h2⟩, hlt, hc => by
    cases t with
    | sl u =>
      have h1' : OwnSl s.H Z N u ty v r.1 := h1
      have hs : s.nx s.H none undef = s := by rw [nx_eq]; rfl
      have hN' : OwnSl s.H Z H0.size u ty v r.1 := by
        rcases h1' with h | ⟨b, o, sp, k, bc, uu, ps, rest, a1, a2, a3, a4⟩
        · exact .inl h
        · exact .inr ⟨b, o, sp, k, bc, uu, ps, rest, a1, a2, by omega, a4⟩
      have h' : SemD H0 Z0 ⟨.sl u :: A.ts, A.sl, A.ob ++ [.sl u ty A.ts.length]⟩ (r.1, e) s Z (upH hv A.ob.length v) := by
        refine (?_ : SemD H0 Z0 _ _ s Z _)
        have := h.step (d := none) (v := undef) (a := .un) (H' := s.H) (hv' := upH hv A.ob.length v) (e' := (r.1, e)) (ts' := .sl u :: A.ts) (ob' := A.ob ++ [.sl u ty A.ts.length]) (Ex.push e r.1) (fun b => blk v = some b) (Nat.le_refl _) (fun _ _ _ => rfl) (fun b hb => by
          rcases hN' with ⟨h0, _⟩ | ⟨b', o, sp, k, bc, uu, ps, rest, a1, a2, a3, a4, a5, _⟩
          · rw [h0] at hb; cases hb
          · rw [a1] at hb; cases hb; exact ⟨a5, fun _ => a3⟩) (fun j hj => upH_lt v hj) (by simp) A.ob.length (fun o' ho' _ => by
            rw [List.getElem?_append_right (Nat.le_refl _)] at ho'
            simp at ho'
            subst ho'
            rw [upH_at]
            exact ⟨⟨_, lk_top e _, hN'⟩, fun b hb => .inr hb⟩) (fun j o' hj ho' hl => by
            rw [List.getElem?_append] at ho'
            split at ho'
            · refine ⟨ho', fun b hb hb' => ?_⟩
              have hb2 := hlt j o' b ho' hl hb
              rcases h1' with ⟨h0, _⟩ | ⟨b', o, sp, k, bc, uu, ps, rest, a1, a2, a3, _⟩
              · rw [h0] at hb'; cases hb'
              · rw [a1] at hb'; cases hb'; omega
            · have := (List.getElem?_eq_some_iff.1 ho').1
              simp at this; omega) (fun h => by cases h)
        rwa [hs] at this
      have hn0 : ownN rs = 0 := by simp [ownN] at hc; omega
      have hno : ∀ (rs : List (Ty × Option Nat)) (ts : List Ty), ownN rs = 0 → rsO rs ts = [] := by
        intro rs
        induction rs with
        | nil => intro ts _; rfl
        | cons p r ih =>
          intro ts h0
          obtain ⟨t, o⟩ := p
          cases o with
          | none => simp only [rsO]; exact ih _ (by simpa [ownN] using h0)
          | some _ => simp [ownN] at h0
      obtain ⟨hv', q1, q2, q3, q4⟩ := rs_ok rs (N := s.H.size + 1 + N) h' (by omega) (by
        have : ∀ (rs : List (Ty × Option Nat)) {e : Pe (tys rs)} {ws : List Value}, ownN rs = 0 → RsOK s.H Z N rs e ws → RsOK s.H Z (s.H.size + 1 + N) rs e ws := by
          intro rs
          induction rs with
          | nil => intro e ws _ h; cases ws <;> exact h
          | cons p r ih =>
            intro e ws h0 h
            obtain ⟨t, o⟩ := p
            cases ws with
            | nil => cases o <;> exact h.elim
            | cons w ws =>
              cases o with
              | none => exact ⟨h.1, ih (by simpa [ownN] using h0) h.2⟩
              | some _ => simp [ownN] at h0
        exact this rs hn0 h2) (fun j o b hj hl hb => by have := (h'.old hj hl hb).2.1; omega) (by omega)
      have e0 := hno rs (.sl u :: A.ts) hn0
      have e0' : rsO rs (expT (.sl u) A.ts) = [] := e0
      have e5 : A.ob ++ [.sl u ty A.ts.length] ++ rsO rs (.sl u :: A.ts) = A.ob ++ rsO ((.sl u, some ty) :: rs) A.ts := by
        show _ = A.ob ++ (Ob.sl u ty A.ts.length :: rsO rs (.sl u :: A.ts))
        simp
      have lenE : (A.ob ++ [Ob.sl u ty A.ts.length]).length = A.ob.length + 1 := by simp
      refine ⟨hv', ?_, fun j hj => (q2 j (by rw [lenE]; omega)).trans (upH_lt v hj), (Ex.push e r.1).trans q3, ?_, ?_⟩
      · have q1' : SemD H0 Z0 ⟨rsT rs (.sl u :: A.ts), A.sl, A.ob ++ [.sl u ty A.ts.length] ++ rsO rs (.sl u :: A.ts)⟩ (rsF rs (.sl u :: A.ts) r.2 (r.1, e)) s Z hv' := q1
        rw [e5] at q1'
        exact q1'
      · have : hv' A.ob.length = v := (q2 A.ob.length (by rw [lenE]; omega)).trans (upH_at _ _)
        refine ⟨?_, ?_, by show [v] = [hv' A.ob.length]; rw [this]⟩
        · show A.ob.length < A.ob.length + (Ob.sl u ty A.ts.length :: rsO rs (.sl u :: A.ts)).length
          simp
        · show ∃ base len k, hv' A.ob.length = .slice base len k
          rw [this]
          rcases h1' with ⟨h0, _⟩ | ⟨b', o, sp, k, bc, uu, ps, rest, a1, _⟩
          · exact ⟨_, _, _, h0⟩
          · exact ⟨_, _, _, a1⟩
      · have q4' := q4
        rw [lenE] at q4'
        have lenF : A.ob.length + (rsO ((.sl u, some ty) :: rs) A.ts).length = A.ob.length + 1 + (rsO rs (.sl u :: A.ts)).length := by
          show A.ob.length + (Ob.sl u ty A.ts.length :: rsO rs (.sl u :: A.ts)).length = _
          simp; omega
        rw [lenF]
        exact q4'
    | _ => exact h1.elim
  | [], _, _, _, _, _, _, _, _ :: _, _, _, h, _, _ => h.elim
  | (_, none) :: _, _, _, _, _, _, _, _, [], _, _, h, _, _ => h.elim
  | (_, some _) :: _, _, _, _, _, _, _, _, [], _, _, h, _, _ => h.elim
theorem SemD.after (h : SemD H0 Z0 A e s Z hv) {H' : Hp} {Z' : Nat → Prop} (hk : Kept s.H H') (hz : ∀ b, Z b → Z' b) (hz1 : ∀ b, Z' b → b < H'.size) (hz2 : ∀ b, Z' b → b < s.H.size → Z b) : SemD H0 Z0 A e (s.nx H' none undef) Z' hv := by
  have g : Grow ⟨s.H, Z, hv⟩ ⟨H', Z', hv⟩ e e A.ob.length A.ob.length := ⟨hz, fun b hb => hk.2 b (h.zs b hb), fun _ _ => rfl, Nat.le_refl _, Ex.refl e⟩
  refine ⟨by rw [nx_ds]; exact h.ds, by rw [nx_df]; exact h.df, by rw [nx_H]; exact h.keep.trans hk, fun b hb => hz b (h.z0 b hb), by rw [nx_H]; exact hz1, fun b hb hlt => h.zf b (hz2 b hb (Nat.lt_of_lt_of_le hlt h.keep.1)) hlt, ?_, h.dj, ?_⟩
  · intro j o hj
    rw [nx_H]
    exact (h.ob j o hj).mono g hk.1 fun hl b hb => ⟨hk.2 b (h.old hj hl hb).2.1, fun hb' => (h.old hj hl hb).2.2 (hz2 b hb' (h.old hj hl hb).2.1)⟩
  · intro k a ha
    rw [nx_H, nx_getn]
    exact (h.sl k a ha).mono g
theorem SemD.put (h : SemD H0 Z0 A e s Z hv) {d : Option Nat} {a : AV} {v : Value} (ha : d.isSome = true → AVOK ⟨s.H, Z, hv⟩ e A.ob.length a v) : SemD H0 Z0 ⟨A.ts, setS A.sl d a, A.ob⟩ e (s.nx s.H d v) Z hv := h.pure (Ex.refl e) ha
theorem packA_ok {c : Cx} {ts : List Ty} {e : Pe ts} {n : Nat} : ∀ {l : List AV1} {vs : List Value}, All2 (AV1OK c e n) l vs → AVOK c e n (packA l) (packV vs)
  | [], [], h => ⟨[], rfl, h⟩
  | [a], [v], ⟨h, _⟩ => h
  | a :: b :: l, v :: w :: vs, h => ⟨v :: w :: vs, rfl, h⟩
  | [], _ :: _, h => h.elim
  | [_], [], h => h.elim
  | [_], _ :: _ :: _, h => h.2.elim
  | _ :: _ :: _, [], h => h.elim
  | _ :: _ :: _, [_], h => h.2.elim
theorem trCall_ok (hs : SemD H0 Z0 A e s Z hv) {k : Nat} {p : PC K G} {args : List Operand} (hG : G s.H) (h : trCall k A d p args = some nx) {e' : Pe nx.B.ts} (he : nx.F e = some e') :
    ∃ v H', K p.f (args.map s.env).toArray s.H = some (.ret v H') ∧ ∃ Z' hv', SemD H0 Z0 nx.B e' (s.nx H' d v) Z' hv' := by
  unfold trCall at h
  split at h
  · rename_i g hg
    split at h
    · rename_i hown
      cases h
      simp only [nxP, nxB, nxQ, nxT] at he
      obtain ⟨r, hr, he⟩ := Option.bind_eq_some_iff.1 he
      cases he
      have fin : ∀ {Z1 : Nat → Prop} {v : Value} {H' : Hp} {ws : List Value}, SemD H0 Z0 A e (s.nx H' none undef) Z1 hv → Kept s.H H' → v = packV ws → RsOK H' Z1 s.H.size p.res r ws →
          ∃ Z' hv', SemD H0 Z0 ⟨rsT p.res A.ts, setS A.sl d (packA (rsL p.res A.ts A.ob.length)), A.ob ++ rsO p.res A.ts⟩ (rsF p.res A.ts r e) (s.nx H' d v) Z' hv' := by
        intro Z1 v H' ws h1 hk hv0 h2
        have hH : (s.nx H' none undef).H = H' := nx_H _ _ _ _
        obtain ⟨hv', q1, q2, q3, q4⟩ := rs_ok p.res (N := s.H.size) h1 hs.keep.1 (by rw [hH]; exact h2) (fun j o b hj hl hb => (hs.old hj hl hb).2.1) hown
        have q5 := q1.put (d := d) (a := packA (rsL p.res A.ts A.ob.length)) (v := v) (fun _ => by
          rw [hv0, hH]
          rw [hH] at q4
          have e0 : (A.ob ++ rsO p.res A.ts).length = A.ob.length + (rsO p.res A.ts).length := by simp
          rw [e0]
          exact packA_ok q4)
        rw [hH, nx_nx] at q5
        exact ⟨Z1, hv', q5⟩
      by_cases hf : flatR p.res = true
      · rw [hf] at hg
        have hargs := argsF_ok (fl := true) hs (Zc := Zx A Z hv) (fun b hb => .inl hb) (fun _ b hb => hb) hg
        obtain ⟨v, H', Z', ws, c1, c2, c3, c4, c5, c6, c7⟩ := p.ok k s.H (Zx A Z hv) (g e) _ hG (fun b hb => by
          rcases hb with hb | ⟨j, o, hj, hl, hb⟩
          · exact hs.zs b hb
          · exact (hs.old hj hl hb).2.1) hargs r hr
        exact ⟨v, H', c1, fin (hs.after c2 (fun _ h => h) (fun b hb => Nat.lt_of_lt_of_le (hs.zs b hb) c2.1) (fun b hb _ => hb)) c2 c6 (c7.flat (fun b hb => c3 b (.inl hb)) hf)⟩
      · have hf' : flatR p.res = false := by simpa using hf
        rw [hf'] at hg
        have hargs := argsF_ok (fl := false) hs (Zc := Z) (fun b hb => hb) (fun h => by cases h) hg
        obtain ⟨v, H', Z', ws, c1, c2, c3, c4, c5, c6, c7⟩ := p.ok k s.H Z (g e) _ hG hs.zs hargs r hr
        exact ⟨v, H', c1, fin (hs.after c2 c3 c4 c5) c2 c6 c7⟩
    · cases h
  · cases h
end
def PPok (K : Caller) (G : Hp → Prop) (f t : Nat) (args : List Ty) (res : List (Ty × Option Nat)) (F : Nat → Pe args → Option (Sum (Pe (tys res)) Unit)) : Prop :=
  ∀ (k : Nat) (H : Hp) (Z : Nat → Prop) (e : Pe args) (vs : List Value), G H → (∀ b, Z b → b < H.size) → ArgsOK H Z args e vs →
    (∀ r, F k e = some (.inl r) → ∃ v H' Z' ws, K f vs.toArray H = some (.ret v H') ∧ Kept H H' ∧ (∀ b, Z b → Z' b) ∧ (∀ b, Z' b → b < H'.size) ∧ (∀ b, Z' b → b < H.size → Z b) ∧ v = packV ws ∧ RsOK H' Z' H.size res r ws) ∧
    (F k e = some (.inr ()) → ∃ H', K f vs.toArray H = some (.pan (.iface t (.agg #[])) H') ∧ Kept H H')
structure PP (K : Caller) (G : Hp → Prop) where
  f : Nat
  t : Nat
  args : List Ty
  res : List (Ty × Option Nat)
  F : Nat → Pe args → Option (Sum (Pe (tys res)) Unit)
  ok : PPok K G f t args res F
def findQ {K : Caller} {G : Hp → Prop} : List (PP K G) → Nat → Option (PP K G)
  | [], _ => none
  | p :: r, f => if p.f = f then some p else findQ r f
theorem findQ_f {K : Caller} {G : Hp → Prop} : ∀ {l : List (PP K G)} {f : Nat} {p : PP K G}, findQ l f = some p → p.f = f
  | [], _, _, h => by cases h
  | q :: r, f, p, h => by
    simp only [findQ] at h
    split at h
    · cases h; assumption
    · exact findQ_f h
section
variable {H0 : Hp} {Z0 Z : Nat → Prop} {A : AState} {e : Pe A.ts} {s : St} {hv : Nat → Value} {d : Option Nat} {K : Caller} {G : Hp → Prop}
theorem callP_ok (hs : SemD H0 Z0 A e s Z hv) {k : Nat} {p : PP K G} {args : List Operand} (hG : G s.H) {g : Pe A.ts → Pe p.args} (hg : argsF A (flatR p.res) args p.args = some g) (hown : ownN p.res ≤ 1) :
    (∀ r, p.F k (g e) = some (.inl r) → ∃ v H', K p.f (args.map s.env).toArray s.H = some (.ret v H') ∧ ∃ Z' hv', SemD H0 Z0 ⟨rsT p.res A.ts, setS A.sl d (packA (rsL p.res A.ts A.ob.length)), A.ob ++ rsO p.res A.ts⟩ (rsF p.res A.ts r e) (s.nx H' d v) Z' hv') ∧
    (p.F k (g e) = some (.inr ()) → ∃ H', K p.f (args.map s.env).toArray s.H = some (.pan (.iface p.t (.agg #[])) H') ∧ ∃ Z' hv', SemD H0 Z0 A e (s.nx H' none undef) Z' hv') := by
  have fin : ∀ {r : Pe (tys p.res)} {Z1 : Nat → Prop} {v : Value} {H' : Hp} {ws : List Value}, SemD H0 Z0 A e (s.nx H' none undef) Z1 hv → Kept s.H H' → v = packV ws → RsOK H' Z1 s.H.size p.res r ws →
      ∃ Z' hv', SemD H0 Z0 ⟨rsT p.res A.ts, setS A.sl d (packA (rsL p.res A.ts A.ob.length)), A.ob ++ rsO p.res A.ts⟩ (rsF p.res A.ts r e) (s.nx H' d v) Z' hv' := by
    intro r Z1 v H' ws h1 hk hv0 h2
    have hH : (s.nx H' none undef).H = H' := nx_H _ _ _ _
    obtain ⟨hv', q1, q2, q3, q4⟩ := rs_ok p.res (N := s.H.size) h1 hs.keep.1 (by rw [hH]; exact h2) (fun j o b hj hl hb => (hs.old hj hl hb).2.1) hown
    have q5 := q1.put (d := d) (a := packA (rsL p.res A.ts A.ob.length)) (v := v) (fun _ => by
      rw [hv0, hH]
      rw [hH] at q4
      have e0 : (A.ob ++ rsO p.res A.ts).length = A.ob.length + (rsO p.res A.ts).length := by simp
      rw [e0]
      exact packA_ok q4)
    rw [hH, nx_nx] at q5
    exact ⟨Z1, hv', q5⟩
  by_cases hf : flatR p.res = true
  · rw [hf] at hg
    have hargs := argsF_ok (fl := true) hs (Zc := Zx A Z hv) (fun b hb => .inl hb) (fun _ b hb => hb) hg
    obtain ⟨p1, p2⟩ := p.ok k s.H (Zx A Z hv) (g e) _ hG (fun b hb => by
      rcases hb with hb | ⟨j, o, hj, hl, hb⟩
      · exact hs.zs b hb
      · exact (hs.old hj hl hb).2.1) hargs
    refine ⟨fun r hr => ?_, fun hr => ?_⟩
    · obtain ⟨v, H', Z', ws, c1, c2, c3, c4, c5, c6, c7⟩ := p1 r hr
      exact ⟨v, H', c1, fin (hs.after c2 (fun _ h => h) (fun b hb => Nat.lt_of_lt_of_le (hs.zs b hb) c2.1) (fun b hb _ => hb)) c2 c6 (c7.flat (fun b hb => c3 b (.inl hb)) hf)⟩
    · obtain ⟨H', c1, c2⟩ := p2 hr
      exact ⟨H', c1, Z, hv, hs.after c2 (fun _ h => h) (fun b hb => Nat.lt_of_lt_of_le (hs.zs b hb) c2.1) (fun b hb _ => hb)⟩
  · have hf' : flatR p.res = false := by simpa using hf
    rw [hf'] at hg
    have hargs := argsF_ok (fl := false) hs (Zc := Z) (fun b hb => hb) (fun h => by cases h) hg
    obtain ⟨p1, p2⟩ := p.ok k s.H Z (g e) _ hG hs.zs hargs
    refine ⟨fun r hr => ?_, fun hr => ?_⟩
    · obtain ⟨v, H', Z', ws, c1, c2, c3, c4, c5, c6, c7⟩ := p1 r hr
      exact ⟨v, H', c1, fin (hs.after c2 c3 c4 c5) c2 c6 c7⟩
    · obtain ⟨H', c1, c2⟩ := p2 hr
      exact ⟨H', c1, Z, hv, hs.after c2 (fun _ h => h) (fun b hb => Nat.lt_of_lt_of_le (hs.zs b hb) c2.1) (fun b hb _ => hb)⟩
end
end Go.Proofs.YtehbekgmemebjaaDoorEv
