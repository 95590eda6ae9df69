import Derived.Test.YtehbekgmemebjaaDoorPvM
namespace Go.Proofs.YtehbekgmemebjaaDoorEv
open Go
set_option linter.unusedVariables false
set_option linter.unusedSimpArgs false
def entT : List Ty → List Ty → List Ty
  | [], acc => acc
  | t :: r, acc => entT r (expT t acc)
def entF : (ts : List Ty) → (acc : List Ty) → Pe ts → Pe acc → Pe (entT ts acc)
  | [], _, _, a => a
  | t :: r, acc, e, a => entF r (expT t acc) e.2 (expF t acc e.1 a)
def entL : List Ty → List Ty → Nat → List (Nat × AV)
  | [], _, _ => []
  | t :: r, acc, i => (i, .v (if t.isAgg then .g (expL t acc.length) else .a (.pu acc.length))) :: entL r (expT t acc) (i + 1)
def entA (ts : List Ty) : AState := ⟨entT ts [], entL ts [] 0, []⟩
def res1T (B : AState) : ARes → (p : Ty × Option Nat) → Option (Pe B.ts → p.1.den)
  | .tmp t, (ty, none) => match look B.sl t with
    | some (.v x) => exV B x ty
    | _ => none
  | .tmp t, (.sl u, some q) => match look B.sl t with
    | some (.v (.a .nil)) => some fun _ => []
    | some (.v (.a (.hd j))) => match B.ob[j]? with
      | some (.sl _ ty i) => if ty = q then lvT B.ts i (.sl u) else none
      | _ => none
    | _ => none
  | .cell t, (ty, none) => match look B.sl t with
    | some (.v (.a (.bp j off))) => match B.ob[j]? with
      | some (.bx l) => match subA B l off 1 with
        | some [a] => if ty.isAgg then none else exA B a ty
        | _ => none
      | _ => none
    | _ => none
  | .cellA n t, (ty, none) => match look B.sl t with
    | some (.v (.a (.bp j off))) => match B.ob[j]? with
      | some (.bx l) => match subA B l off n with
        | some r => if ty.isAgg then exS B r ty else none
        | none => none
      | _ => none
    | _ => none
  | _, _ => none
def resT (B : AState) : List ARes → (rs : List (Ty × Option Nat)) → Option (Pe B.ts → Pe (tys rs))
  | [], [] => some fun _ => ()
  | a :: l, p :: r => match res1T B a p, resT B l r with
    | some f, some g => some fun e => (f e, g e)
    | _, _ => none
  | _, _ => none
def goR (rs : List ARes) (res : List (Ty × Option Nat)) (h : Xh) : Option (Pe h.B.ts → Option (Pe (tys res))) := match h.x with
  | .x _ => none
  | .p _ => none
  | _ => match resT h.B rs res with
    | some f => some fun e => some (f e)
    | none => none
section
variable {K : Caller} {G : Hp → Prop}
def funT (PT : List (PC K G)) (TT : Nat → Option Ty) (PQ : List (PP K G)) (LT : List Lh) (k n : Nat) (fn : AFunc) (args : List Ty) (res : List (Ty × Option Nat)) (X : List Xh) : Option (Pe args → Option (Pe (tys res))) :=
  match outs (goR fn.results res) X with
  | some g => match run PT TT PQ LT k n fn.body [] (entA args) X g with
    | some F => some fun e => F (entF args [] e ())
    | none => none
  | none => none
theorem ent_ok {H : Hp} {Z : Nat → Prop} {hv : Nat → Value} : ∀ {ts : List Ty} {acc : List Ty} {e : Pe ts} {a : Pe acc} {vs : List Value} {i : Nat}, ArgsOK H Z ts e vs → Ex a (entF ts acc e a) ∧ ∀ p ∈ entL ts acc i, ∃ v, i ≤ p.1 ∧ vs[p.1 - i]? = some v ∧ AVOK ⟨H, Z, hv⟩ (entF ts acc e a) 0 p.2 v
  | [], acc, e, a, vs, i, h => ⟨Ex.refl a, fun p hp => by cases hp⟩
  | t :: r, acc, e, a, [], i, h => h.elim
  | t :: r, acc, e, a, v :: vs, i, ⟨h1, h2⟩ => by
    obtain ⟨q1, q2⟩ := exp_ok (e := a) (hv := hv) (n := 0) h1.cells
    obtain ⟨r1, r2⟩ := ent_ok (acc := expT t acc) (e := e.2) (a := expF t acc e.1 a) (i := i + 1) h2
    refine ⟨q2.trans r1, fun p hp => ?_⟩
    rcases List.mem_cons.1 hp with rfl | hp
    · refine ⟨v, Nat.le_refl _, by simp, ?_⟩
      have g : Grow ⟨H, Z, hv⟩ ⟨H, Z, hv⟩ (expF t acc e.1 a) (entF (t :: r) acc e a) 0 0 := ⟨fun _ h => h, fun _ _ => rfl, fun _ _ => rfl, Nat.le_refl _, r1⟩
      unfold RepV at h1
      by_cases ha : t.isAgg = true
      · rw [if_pos ha] at h1
        simp only [ha, if_true]
        obtain ⟨cs, rfl, _⟩ := h1
        exact AVOK.mono g (a := .v (.g (expL t acc.length))) ⟨cs, rfl, q1⟩
      · rw [if_neg ha] at h1
        simp only [ha]
        have e3 : expL t acc.length = [.pu acc.length] := by cases t <;> first | rfl | exact absurd rfl ha
        rw [e3] at q1
        have hic := Rep.isCell _ _ _ h1
        rw [cell_cells (by simpa using hic)] at q1
        exact AVOK.mono g (a := .v (.a (.pu acc.length))) q1.one
    · obtain ⟨v', w1, w2, w3⟩ := r2 p hp
      exact ⟨v', by omega, by
        have : p.1 - i = (p.1 - (i + 1)) + 1 := by omega
        rw [this, List.getElem?_cons_succ]; exact w2, w3⟩
theorem ent_sem {H : Hp} {Z : Nat → Prop} {ts : List Ty} {e : Pe ts} {vs : List Value} (hz : ∀ b, Z b → b < H.size) (h : ArgsOK H Z ts e vs) : Sem H Z (entA ts) (entF ts [] e ()) { t := enterT 0 vs .nil, H, ds := [], df := false, pm := none } := by
  refine ⟨Z, fun _ => .nilFunc, rfl, rfl, Kept.refl _, fun _ h => h, hz, fun _ h _ => h, fun j o hj => by simp [entA] at hj, fun j j' o o' b _ hj => by simp [entA] at hj, fun d a ha => ?_⟩
  obtain ⟨_, h2⟩ := ent_ok (acc := []) (a := ()) (i := 0) (hv := fun _ => .nilFunc) h
  obtain ⟨v, _, w2, w3⟩ := h2 (d, a) (look_mem ha)
  rw [get_enter]
  have : vs.getD d undef = v := by
    rw [List.getD_eq_getElem?_getD]
    simp only [Nat.sub_zero] at w2
    rw [w2]; rfl
  rw [this]
  exact w3
section
variable {H0 : Hp} {Z0 Z : Nat → Prop} {B : AState} {e : Pe B.ts} {s : St} {hv : Nat → Value}
theorem notchan {c : Cx} {n : Nat} {x : AV1} {v : Value} (h : AV1OK c e n x v) : ∀ q, v ≠ .chan q := by
  rintro q rfl
  cases x with
  | a x =>
    have h' : AtOK c e n x [.chan q] := h
    cases x with
    | pu i =>
      obtain ⟨t, y, _, h2⟩ := h'
      have := h2.eqv 0 (.chan q) (by simp)
      simp [eqV] at this
    | cst l => simp only [AtOK] at h'; cases l <;> simp [Lt.val] at h'
    | nil => simp [AtOK] at h'
    | hd j =>
      obtain ⟨_, ⟨b, l, k, h2⟩, h3⟩ := h'
      rw [h2] at h3; simp at h3
    | bp j o => obtain ⟨_, b, _, h3⟩ := h'; simp at h3
    | ep j i o w => obtain ⟨_, x, b, o, sp, len, k, _, _, _, _, h3⟩ := h'; simp at h3
    | sp i o => obtain ⟨t, x, b, o, bc, u, ro, cs0, rest, _, h3, _⟩ := h'; simp at h3
    | fn f => simp [AtOK] at h'
    | ifc f => simp [AtOK] at h'
    | ap j off i m w o2 => obtain ⟨_, x, b, _, _, _, _, h3⟩ := h'; simp at h3
  | g l => obtain ⟨cs, h1, _⟩ := h; cases h1
theorem res1_ok (hs : SemD H0 Z0 B e s Z hv) {a : ARes} {p : Ty × Option Nat} {f : Pe B.ts → p.1.den} (h : res1T B a p = some f) :
    ∃ w, resO s a = some w ∧ match p.2 with
      | none => RepV s.H Z p.1 (f e) w
      | some ty => OwnT s.H Z H0.size ty w p.1 (f e) := by
  obtain ⟨ty, o⟩ := p
  cases a with
  | tmp t =>
    cases o with
    | none =>
      simp only [res1T] at h
      split at h
      · rename_i x hx
        have h1 := hs.sl t _ hx
        refine ⟨s.get t, ?_, exV_ok h h1⟩
        simp only [resO]
        have := notchan h1
        cases hg : s.get t <;> first | rfl | (rw [hg] at this; exact absurd rfl (this _))
      · cases h
    | some q =>
      cases ty with
      | sl u =>
        simp only [res1T] at h
        split at h
        · rename_i hx
          cases h
          have h1 : [s.get t] = [.slice none 0 0] := hs.sl t _ hx
          simp only [List.cons.injEq, and_true] at h1
          exact ⟨.slice none 0 0, by simp only [resO, h1], .inl ⟨rfl, rfl⟩⟩
        · rename_i j hx
          split at h
          · rename_i u' ty i hj
            split at h
            · rename_i hq
              subst hq
              obtain ⟨_, ⟨b, l, k, h2⟩, h3⟩ := hs.sl t _ hx
              simp only [List.cons.injEq, and_true] at h3
              obtain ⟨l', w1, w2⟩ := hs.ob j _ hj
              have w3 := lvT_lk e h
              rw [w1] at w3
              cases w3
              have h2' : hv j = .slice b l k := h2
              refine ⟨hv j, ?_, w2⟩
              have h3' : s.get t = hv j := h3
              simp only [resO, h3', h2']
            · cases h
          · cases h
        · cases h
      | _ => simp [res1T] at h
  | cell t =>
    cases o with
    | none =>
      simp only [res1T] at h
      split at h
      · rename_i j off hx
        split at h
        · rename_i l hj
          split at h
          · rename_i a ha
            split at h
            · cases h
            · rename_i hag
              obtain ⟨_, b', h1, h2⟩ := hs.sl t _ hx
              obtain ⟨b, bc, u, h3, h4, h5, h6, h7, h8⟩ := hs.ob j _ hj
              change hv j = _ at h1
              rw [h3] at h1
              cases h1
              obtain ⟨q1, q2⟩ := subA_ok ha h8
              simp only [List.cons.injEq, and_true] at h2
              have hlt : off < bc.length := by omega
              have e1 : (bc.drop off).take 1 = [bc[off]] := by rw [List.drop_eq_getElem_cons hlt]; rfl
              rw [e1] at q2
              have h7' : s.H.get b' = some (.cells bc u false) := h7
              refine ⟨bc[off], by simp only [resO, h2, loadO, h7', List.getElem?_eq_getElem hlt], ?_⟩
              show RepV s.H Z ty (f e) bc[off]
              unfold RepV
              rw [if_neg hag]
              exact exA_ok h q2.one
          · cases h
        · cases h
      · cases h
    | some q => simp [res1T] at h
  | cellA n t =>
    cases o with
    | none =>
      simp only [res1T] at h
      split at h
      · rename_i j off hx
        split at h
        · rename_i l hj
          split at h
          · rename_i r hr
            split at h
            · rename_i hag
              obtain ⟨_, b', h1, h2⟩ := hs.sl t _ hx
              obtain ⟨b, bc, u, h3, h4, h5, h6, h7, h8⟩ := hs.ob j _ hj
              change hv j = _ at h1
              rw [h3] at h1
              cases h1
              obtain ⟨q1, q2⟩ := subA_ok hr h8
              simp only [List.cons.injEq, and_true] at h2
              have h7' : s.H.get b' = some (.cells bc u false) := h7
              refine ⟨.agg ((bc.drop off).take n).toArray, by simp only [resO, h2, loadAO, h7']; rw [if_pos q1], ?_⟩
              show RepV s.H Z ty (f e) _
              unfold RepV
              rw [if_pos hag]
              exact ⟨_, rfl, exS_ok h q2⟩
            · cases h
          · cases h
        · cases h
      · cases h
    | some q => simp [res1T] at h
theorem resT_ok (hs : SemD H0 Z0 B e s Z hv) : ∀ {l : List ARes} {rs : List (Ty × Option Nat)} {f : Pe B.ts → Pe (tys rs)}, resT B l rs = some f → ∃ ws, l.mapM (resO s) = some ws ∧ RsOK s.H Z H0.size rs (f e) ws
  | [], [], f, h => ⟨[], rfl, trivial⟩
  | a :: l, p :: r, f, h => by
    simp only [resT] at h
    split at h
    · rename_i f1 g h1 h2
      cases h
      obtain ⟨w, q1, q2⟩ := res1_ok hs h1
      obtain ⟨ws, r1, r2⟩ := resT_ok hs h2
      refine ⟨w :: ws, by simp [q1, r1], ?_⟩
      obtain ⟨t, o⟩ := p
      cases o with
      | none => exact ⟨q2, r2⟩
      | some ty => exact ⟨q2, r2⟩
    · cases h
  | [], _ :: _, f, h => by simp [resT] at h
  | _ :: _, [], f, h => by simp [resT] at h
end
theorem fun_ok {xo : Caller} {code : Nat → Option AFunc} {f : Nat} {fn : AFunc} (hf : code f = some fn) (hxo : ∀ a H, xo f a H = none) (hG : ∀ H H', G H → Kept H H' → G H') {PT : List (PC (lim xo code) G)} {TT : Nat → Option Ty} {PQ : List (PP (lim xo code) G)} {LT : List Lh} {n : Nat} {args : List Ty} {res : List (Ty × Option Nat)} {X : List Xh} (hn : args.length ≤ fn.ntmps)
    {k : Nat} {F : Pe args → Option (Pe (tys res))} (hF : funT PT TT PQ LT k n fn args res X = some F) (H : Hp) (Z : Nat → Prop) (e : Pe args) (vs : List Value) (hGH : G H) (hz : ∀ b, Z b → b < H.size) (ha : ArgsOK H Z args e vs) (r : Pe (tys res)) (hr : F e = some r) :
    ∃ v H' Z' ws, lim xo code f vs.toArray H = some (.ret v H') ∧ Kept H H' ∧ (∀ b, Z b → Z' b) ∧ (∀ b, Z' b → b < H'.size) ∧ (∀ b, Z' b → b < H.size → Z b) ∧ v = packV ws ∧ RsOK H' Z' H.size res r ws := by
  unfold funT at hF
  split at hF
  · rename_i g h2
    split at hF
    case h_2 => cases hF
    rename_i F1 h1
    cases hF
    have hw := (run_ok (H0 := H) (Z0 := Z) (fun H' hk => hG H H' hGH hk) n).1 fn.body [] (entA args) _ X g F1 _ _ r h1 (ent_sem hz ha) hr
    have hw2 : W (lim xo code) fn.body { t := enterT 0 vs .nil, H, ds := [], df := false, pm := none } fun ex s' => (ex = .normal ∨ ex = .ret) ∧ s'.ds = [] ∧ ∃ Z' ws, Kept H s'.H ∧ (∀ b, Z b → Z' b) ∧ (∀ b, Z' b → b < s'.H.size) ∧ (∀ b, Z' b → b < H.size → Z b) ∧ resultsO s' fn.results = some (packV ws) ∧ RsOK s'.H Z' H.size res r ws := by
      refine hw.mono fun ex s' hq => ?_
      obtain ⟨o, w2, hq⟩ := hq
      refine outs_ok (P := fun ex s' => (ex = .normal ∨ ex = .ret) ∧ s'.ds = [] ∧ ∃ Z' ws, Kept H s'.H ∧ (∀ b, Z b → Z' b) ∧ (∀ b, Z' b → b < s'.H.size) ∧ (∀ b, Z' b → b < H.size → Z b) ∧ resultsO s' fn.results = some (packV ws) ∧ RsOK s'.H Z' H.size res r ws) h2 w2 hq fun h f e hgo hfe hex hsem => ?_
      obtain ⟨Z', hv', hsd⟩ := hsem
      unfold goR at hgo
      split at hgo
      · cases hgo
      · cases hgo
      · rename_i hx hx2
        split at hgo
        · rename_i f' hf'
          cases hgo
          cases hfe
          obtain ⟨ws, q1, q2⟩ := resT_ok hsd hf'
          refine ⟨?_, hsd.ds, Z', ws, hsd.keep, hsd.z0, hsd.zs, hsd.zf, ?_, q2⟩
          · cases hxx : h.x with
            | n => rw [hxx] at hex; cases ex <;> first | exact .inl rfl | exact hex.elim
            | x i => exact absurd hxx (hx i)
            | r => rw [hxx] at hex; cases ex <;> first | exact .inr rfl | exact hex.elim
            | p t => exact absurd hxx (hx2 t)
          · simp only [resultsO, q1, Option.map_some]
            cases ws with
            | nil => rfl
            | cons a l => cases l <;> rfl
        · cases hgo
    have hlen : vs.length = args.length := by
      have : ∀ {ts : List Ty} {e : Pe ts} {vs : List Value}, ArgsOK H Z ts e vs → vs.length = ts.length := by
        intro ts
        induction ts with
        | nil => intro e vs h; cases vs with
          | nil => rfl
          | cons _ _ => exact h.elim
        | cons t r ih => intro e vs h; cases vs with
          | nil => exact h.elim
          | cons v vs => simp [ih h.2]
      exact this ha
    have hnt : ¬ fn.ntmps < vs.toArray.size := by simp; omega
    unfold W at hw2
    obtain ⟨m, ex, s', q1, q2, q3, Z', ws, q4, q5, q6, q7, q8, q9⟩ := hw2
    refine ⟨packV ws, s'.H, Z', ws, lim_call (.inl (hxo _ _)) hf hnt ?_, q4, q5, q6, q7, rfl, q9⟩
    unfold W
    refine ⟨m, ex, s', q1, ?_⟩
    rcases q2 with rfl | rfl <;> exact leave0 q3 q8 rfl
  · cases hF
def PCok (K : Caller) (G : Hp → Prop) (f : Nat) (args : List Ty) (res : List (Ty × Option Nat)) (F : Nat → Pe args → Option (Pe (tys res))) : Prop :=
  ∀ (k : Nat) (H : Hp) (Z : Nat → Prop) (e : Pe args) (vs : List Value), G H → (∀ b, Z b → b < H.size) → ArgsOK H Z args e vs → ∀ r, F k e = some r →
    ∃ v H' Z' ws, K f vs.toArray H = some (.ret v H') ∧ Kept H H' ∧ (∀ b, Z b → Z' b) ∧ (∀ b, Z' b → b < H'.size) ∧ (∀ b, Z' b → b < H.size → Z b) ∧ v = packV ws ∧ RsOK H' Z' H.size res r ws
theorem rec_ok {xo : Caller} {code : Nat → Option AFunc} {f : Nat} {fn : AFunc} (hf : code f = some fn) (hxo : ∀ a H, xo f a H = none) (hG : ∀ H H', G H → Kept H H' → G H') {PT : List (PC (lim xo code) G)} {TT : Nat → Option Ty} {PQ : List (PP (lim xo code) G)} {LT : List Lh} {n : Nat} {args : List Ty} {res : List (Ty × Option Nat)} {X : List Xh} (hn : args.length ≤ fn.ntmps)
    {S : (Pe args → Option (Pe (tys res))) → Nat → Pe args → Option (Pe (tys res))} {F : Nat → Pe args → Option (Pe (tys res))} (h0 : ∀ e, F 0 e = none) (h1 : ∀ k e, F (k + 1) e = S (F k) k e)
    (hS : ∀ (g : Pe args → Option (Pe (tys res))) (hok : PCok (lim xo code) G f args res fun _ => g) (k : Nat), funT (⟨f, args, res, fun _ => g, hok⟩ :: PT) TT PQ LT k n fn args res X = some (S g k)) : PCok (lim xo code) G f args res F := by
  intro k
  induction k with
  | zero => intro H Z e vs _ _ _ r hr; rw [h0] at hr; cases hr
  | succ k ih =>
    intro H Z e vs hGH hz ha r hr
    rw [h1] at hr
    exact fun_ok hf hxo hG hn (hS (F k) (fun _ => ih) k) H Z e vs hGH hz ha r hr
end
end Go.Proofs.YtehbekgmemebjaaDoorEv
