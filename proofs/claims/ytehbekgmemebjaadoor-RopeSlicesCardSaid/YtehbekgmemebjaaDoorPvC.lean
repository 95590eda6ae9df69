import Derived.Test.YtehbekgmemebjaaDoorPvB
namespace Go.Proofs.YtehbekgmemebjaaDoorEv
open Go
set_option linter.unusedVariables false
set_option linter.unusedSimpArgs false
def cA : Value → Option At
  | .int k n => some (.cst (.int k n))
  | .bool b => some (.cst (.bool b))
  | .string s => some (.cst (.str s))
  | .slice none 0 0 => some .nil
  | _ => none
def cAs : List Value → Option (List At)
  | [] => some []
  | v :: r => match cA v, cAs r with
    | some a, some l => some (a :: l)
    | _, _ => none
def cV : Value → Option AV1
  | .agg cs => match cAs cs.toList with
    | some l => some (.g l)
    | none => none
  | v => match cA v with
    | some a => some (.a a)
    | none => none
def opA (A : AState) : Operand → Option AV1
  | .tmp i => match look A.sl i with
    | some (.v x) => some x
    | _ => none
  | .const v => cV v
  | .func f => some (.a (.fn f))
  | .global _ => none
def castV {ts : List Ty} {u t : Ty} (h : u = t) (x : u.den) : Pe ts → t.den := fun _ => h ▸ x
def exA (A : AState) : At → (t : Ty) → Option (Pe A.ts → t.den)
  | .pu i, t => lvT A.ts i t
  | .cst l, t => if h : l.ty = t then some (castV h l.den) else none
  | .nil, .sl _ => some fun _ => []
  | _, _ => none
def exR (A : AState) : At → (t : Ty) → Option (Pe A.ts → t.den)
  | .hd j, t => match A.ob[j]? with
    | some (.sl _ _ i) => lvT A.ts i t
    | _ => none
  | a, t => exA A a t
def exS (A : AState) : List At → (t : Ty) → Option (Pe A.ts → t.den)
  | [], .unit => some fun _ => ()
  | a :: l, .pair u r => match exA A a u, exS A l r with
    | some f, some g => some fun e => (f e, g e)
    | _, _ => none
  | [a], .arr n u => exA A a (.arr n u)
  | _, _ => none
def exV (A : AState) (x : AV1) (t : Ty) : Option (Pe A.ts → t.den) := match x with
  | .a a => if t.isAgg then none else exA A a t
  | .g l => if t.isAgg then exS A l t else none
def tyA (A : AState) : At → Option Ty
  | .pu i => match lv A.ts i with
    | some ⟨t, _⟩ => some t
    | none => none
  | .cst l => some l.ty
  | .hd j => match A.ob[j]? with
    | some (.sl t _ _) => some (.sl t)
    | _ => none
  | _ => none
def tyO (A : AState) (x : Operand) : Option Ty := match opA A x with
  | some (.a a) => tyA A a
  | _ => none
def exO (A : AState) (x : Operand) (t : Ty) : Option (Pe A.ts → t.den) := match opA A x with
  | some (.a a) => if t.isAgg then none else exR A a t
  | _ => none
section
variable {H0 : Hp} {Z0 Z : Nat → Prop} {A : AState} {e : Pe A.ts} {s : St} {hv : Nat → Value}
theorem cA_ok {c : Cx} {ts : List Ty} {e : Pe ts} {n : Nat} {v : Value} {a : At} (h : cA v = some a) : AtOK c e n a [v] := by
  unfold cA at h
  split at h <;> cases h <;> exact rfl
theorem cAs_ok {c : Cx} {ts : List Ty} {e : Pe ts} {n : Nat} : ∀ {l : List Value} {as : List At}, cAs l = some as → AtsOK c e n as l
  | [], as, h => by cases h; exact ⟨[], rfl, trivial⟩
  | v :: r, as, h => by
    simp only [cAs] at h
    split at h
    · rename_i a l h1 h2
      cases h
      obtain ⟨ps, e1, e2⟩ := cAs_ok (c := c) (e := e) (n := n) h2
      exact ⟨[v] :: ps, by rw [List.flatten_cons, ← e1]; rfl, cA_ok h1, e2⟩
    · cases h
theorem cV_ok {c : Cx} {ts : List Ty} {e : Pe ts} {n : Nat} {v : Value} {a : AV1} (h : cV v = some a) : AV1OK c e n a v := by
  unfold cV at h
  split at h
  · rename_i cs
    split at h
    · rename_i l hl
      cases h
      exact ⟨cs.toList, by simp, cAs_ok hl⟩
    · cases h
  · split at h
    · rename_i a ha
      cases h
      exact cA_ok ha
    · cases h
theorem opA_ok (hs : SemD H0 Z0 A e s Z hv) {x : Operand} {a : AV1} (h : opA A x = some a) : AV1OK ⟨s.H, Z, hv⟩ e A.ob.length a (s.env x) := by
  cases x with
  | tmp i =>
    simp only [opA] at h
    split at h
    · rename_i x hl
      cases h
      exact hs.sl i _ hl
    · cases h
  | const v => exact cV_ok h
  | func f => cases h; exact rfl
  | global g => cases h
theorem castV_rep {H : Hp} {ts : List Ty} {e : Pe ts} {u t : Ty} (h : u = t) (x : u.den) {cs : List Value} (hr : Rep H Z u x cs) : Rep H Z t (castV (ts := ts) h x e) cs := by
  subst h; exact hr
theorem lit_rep {H : Hp} (l : Lt) : Rep H Z l.ty l.den [l.val] := by cases l <;> exact rfl
theorem exA_ok {c : Cx} {n : Nat} {a : At} {t : Ty} {f : Pe A.ts → t.den} {cs : List Value} (h : exA A a t = some f) (ha : AtOK c e n a cs) : Rep c.H c.Z t (f e) cs := by
  cases a with
  | pu i =>
    obtain ⟨t', x, h1, h2⟩ := ha
    have := lvT_lk e (show lvT A.ts i t = some f by simpa only [exA] using h)
    rw [h1] at this
    cases this
    exact h2
  | cst l =>
    simp only [exA] at h
    split at h
    · rename_i hu
      cases h
      obtain rfl : cs = [l.val] := ha
      exact castV_rep hu _ (lit_rep l)
    · cases h
  | nil =>
    cases t with
    | sl u =>
      simp only [exA] at h
      cases h
      obtain rfl : cs = [.slice none 0 0] := ha
      exact ⟨none, 0, rfl, .inl ⟨rfl, fun _ => rfl⟩⟩
    | _ => simp [exA] at h
  | _ => simp [exA] at h
def Zx (A : AState) (Z : Nat → Prop) (hv : Nat → Value) (b : Nat) : Prop := Z b ∨ ∃ j o, A.ob[j]? = some o ∧ o.live = true ∧ blk (hv j) = some b
theorem OwnSl.rep {H : Hp} {N : Nat} {t : Ty} {ty : Nat} {v : Value} {l : List t.den} {Z' : Nat → Prop} (hz : ∀ b, Z b → Z' b) (hb : ∀ b, blk v = some b → Z' b) (h : OwnSl H Z N t ty v l) : Rep H Z' (.sl t) l [v] := by
  rcases h with ⟨rfl, rfl⟩ | ⟨b, o, sp, k, bc, u, ps, rest, rfl, h1, h2, h3, h4, h5, h6, h7, h8, h9, h10, h11⟩
  · exact ⟨none, 0, rfl, .inl ⟨rfl, fun _ => rfl⟩⟩
  · exact ⟨_, _, rfl, .inr ⟨b, o, sp, bc, u, false, ps, rest, rfl, hb b rfl, h5, h6, h7.mono fun _ _ => Rep.mono hz (fun _ _ => rfl) _ _ _, .inr (h10.imp_right And.left), h11, h9⟩⟩
theorem exR_ok (hs : SemD H0 Z0 A e s Z hv) {a : At} {t : Ty} {f : Pe A.ts → t.den} {cs : List Value} (h : exR A a t = some f) (ha : AtOK ⟨s.H, Z, hv⟩ e A.ob.length a cs) : Rep s.H (Zx A Z hv) t (f e) cs := by
  have other : ∀ {a : At}, exA A a t = some f → AtOK ⟨s.H, Z, hv⟩ e A.ob.length a cs → Rep s.H (Zx A Z hv) t (f e) cs := fun h ha =>
    Rep.mono (fun _ h => .inl h) (fun _ _ => rfl) _ _ _ (exA_ok h ha)
  cases a with
  | hd j =>
    simp only [exR] at h
    split at h
    · rename_i t' ty i hj
      obtain ⟨l, h1, h2⟩ := hs.ob j _ hj
      have := lvT_lk e h
      rw [h1] at this
      cases this
      obtain ⟨_, _, rfl⟩ := ha
      exact h2.rep (fun _ h => .inl h) fun b hb => .inr ⟨j, _, hj, rfl, hb⟩
    · cases h
  | pu i => exact other (a := .pu i) (by simpa only [exR] using h) ha
  | cst l => exact other (a := .cst l) (by simpa only [exR] using h) ha
  | nil => exact other (a := .nil) (by simpa only [exR] using h) ha
  | bp j off => exact other (a := .bp j off) (by simpa only [exR] using h) ha
  | ep j i off w => exact other (a := .ep j i off w) (by simpa only [exR] using h) ha
  | sp i off => exact other (a := .sp i off) (by simpa only [exR] using h) ha
  | fn g => exact other (a := .fn g) (by simpa only [exR] using h) ha
  | ifc g => exact other (a := .ifc g) (by simpa only [exR] using h) ha
  | ap j off i m w o2 => exact other (a := .ap j off i m w o2) (by simpa only [exR] using h) ha
theorem exO_ok (hs : SemD H0 Z0 A e s Z hv) {x : Operand} {t : Ty} {f : Pe A.ts → t.den} (h : exO A x t = some f) : Rep s.H (Zx A Z hv) t (f e) [s.env x] := by
  unfold exO at h
  split at h
  · rename_i a ha
    split at h
    · cases h
    · exact exR_ok hs h (opA_ok hs ha)
  · cases h
theorem exO_int (hs : SemD H0 Z0 A e s Z hv) {x : Operand} {k : IntKind} {f : Pe A.ts → Int} (h : exO A x (.int k) = some f) : s.env x = .int k (f e) := by
  have := exO_ok hs h
  simpa [Rep] using this
theorem exO_bool (hs : SemD H0 Z0 A e s Z hv) {x : Operand} {f : Pe A.ts → Bool} (h : exO A x .bool = some f) : s.env x = .bool (f e) := by
  have := exO_ok hs h
  simpa [Rep] using this
theorem exO_str (hs : SemD H0 Z0 A e s Z hv) {x : Operand} {f : Pe A.ts → ByteArray} (h : exO A x .str = some f) : s.env x = .string (f e) := by
  have := exO_ok hs h
  simpa [Rep] using this
theorem exS_ok {c : Cx} {n : Nat} : ∀ {t : Ty} {l : List At} {f : Pe A.ts → t.den} {cs : List Value}, exS A l t = some f → AtsOK c e n l cs → Rep c.H c.Z t (f e) cs := by
  have one : ∀ {t : Ty} {a : At} {f : Pe A.ts → t.den} {cs : List Value}, exA A a t = some f → AtsOK c e n [a] cs → Rep c.H c.Z t (f e) cs := by
    rintro t a f cs h ⟨ps, rfl, h2⟩
    match ps, h2 with
    | [p], ⟨h3, _⟩ =>
      rw [List.flatten_cons, List.flatten_nil, List.append_nil]
      exact exA_ok h h3
    | [], h => exact h.elim
    | _ :: _ :: _, h => exact h.2.elim
  intro t
  induction t with
  | unit =>
    intro l f cs h ha
    cases l with
    | nil =>
      obtain ⟨ps, rfl, h2⟩ := ha
      cases ps with
      | nil => rfl
      | cons _ _ => exact h2.elim
    | cons a l => cases l <;> simp [exS] at h
  | pair u r _ ih =>
    intro l f cs h ha
    cases l with
    | nil => simp [exS] at h
    | cons a l =>
      simp only [exS] at h
      split at h
      · rename_i f' g' h1 h2
        cases h
        obtain ⟨ps, rfl, h3⟩ := ha
        cases ps with
        | nil => exact h3.elim
        | cons p ps => exact ⟨p, ps.flatten, rfl, exA_ok h1 h3.1, ih h2 ⟨ps, rfl, h3.2⟩⟩
      · cases h
  | arr m u _ =>
    intro l f cs h ha
    match l, h with
    | [a], h => exact one (by simpa only [exS] using h) ha
    | [], h => simp [exS] at h
    | _ :: _ :: _, h => simp [exS] at h
  | int k => intro l f cs h; cases l with
    | nil => simp [exS] at h
    | cons a l => cases l <;> simp [exS] at h
  | bool => intro l f cs h; cases l with
    | nil => simp [exS] at h
    | cons a l => cases l <;> simp [exS] at h
  | str => intro l f cs h; cases l with
    | nil => simp [exS] at h
    | cons a l => cases l <;> simp [exS] at h
  | sl u _ => intro l f cs h; cases l with
    | nil => simp [exS] at h
    | cons a l => cases l <;> simp [exS] at h
theorem exV_ok {c : Cx} {n : Nat} {x : AV1} {t : Ty} {f : Pe A.ts → t.den} {v : Value} (h : exV A x t = some f) (ha : AV1OK c e n x v) : RepV c.H c.Z t (f e) v := by
  unfold exV at h
  unfold RepV
  cases x with
  | a a =>
    simp only at h
    split at h
    · cases h
    · rename_i hn
      rw [if_neg hn]
      exact exA_ok h ha
  | g l =>
    simp only at h
    split at h
    · rename_i hn
      rw [if_pos hn]
      obtain ⟨cs, h1, h2⟩ := ha
      exact ⟨cs, h1, exS_ok h h2⟩
    · cases h
end
structure Nx (A : AState) where
  B : AState
  F : Pe A.ts → Option (Pe B.ts)
  C : {β : Type} → Pe A.ts → (Pe B.ts → Option β) → Option β
  hC : ∀ {β : Type} (e : Pe A.ts) (κ : Pe B.ts → Option β), C e κ = (F e).bind κ
def nxT {A : AState} (B : AState) (g : Pe A.ts → Pe B.ts) : Nx A := ⟨B, fun e => some (g e), fun e κ => κ (g e), fun _ _ => rfl⟩
def nxP {A : AState} (B : AState) (c : Pe A.ts → Prop) [∀ e, Decidable (c e)] (g : Pe A.ts → Pe B.ts) : Nx A := ⟨B, fun e => if c e then some (g e) else none, fun e κ => if c e then κ (g e) else none, fun e κ => by
  by_cases h : c e
  · simp only [if_pos h, Option.bind_some]
  · simp only [if_neg h, Option.bind_none]⟩
def nxQ {A : AState} (B : AState) (c : Pe A.ts → Bool) (g : Pe A.ts → Pe B.ts) : Nx A := ⟨B, fun e => if c e = true then none else some (g e), fun e κ => if c e = true then none else κ (g e), fun e κ => by
  by_cases h : c e = true
  · simp only [if_pos h, Option.bind_none]
  · simp only [if_neg h, Option.bind_some]⟩
def nxB {A : AState} (B : AState) {α : Type} (f : Pe A.ts → Option α) (g : Pe A.ts → α → Pe B.ts) : Nx A := ⟨B, fun e => (f e).bind fun x => some (g e x), fun e κ => (f e).bind fun x => κ (g e x), fun e κ => by
  cases f e <;> rfl⟩
def puB (A : AState) (d : Option Nat) (t : Ty) : AState := ⟨t :: A.ts, setS A.sl d (.v (.a (.pu A.ts.length))), A.ob⟩
def puT (A : AState) (d : Option Nat) (t : Ty) (f : Pe A.ts → Option t.den) : Nx A := nxB (puB A d t) f fun e x => (x, e)
def puE (A : AState) (d : Option Nat) (t : Ty) (f : Pe A.ts → t.den) : Nx A := nxT (puB A d t) fun e => (f e, e)
def stA (A : AState) (d : Option Nat) (a : AV) : Nx A := nxT ⟨A.ts, setS A.sl d a, A.ob⟩ fun e => e
def Did (H0 : Hp) (Z0 : Nat → Prop) (A : AState) (s : St) (d : Option Nat) (op : AOp) (B : AState) (e' : Pe B.ts) : Prop :=
  ∃ v H', evOp s.env s.H op = some (.ok v H') ∧ (reads op = true → hfree op = false → eqV 3 v v = true) ∧ ∃ Z' hv', SemD H0 Z0 B e' (s.nx H' d v) Z' hv'
section
variable {H0 : Hp} {Z0 Z : Nat → Prop} {A : AState} {e : Pe A.ts} {s : St} {hv : Nat → Value} {d : Option Nat}
theorem puT_ok (h : SemD H0 Z0 A e s Z hv) {t : Ty} {x : t.den} {v : Value} (hr : Rep s.H Z t x [v]) : SemD H0 Z0 (puB A d t) (x, e) (s.nx s.H d v) Z hv :=
  h.pure (Ex.push e x) fun _ => ⟨t, x, lk_top e x, hr⟩
theorem did_pure {op : AOp} {v : Value} (hf : hfree op = true) (h : SemD H0 Z0 A e s Z hv) {t : Ty} {x : t.den} (hr : Rep s.H Z t x [v]) (ev : evOp s.env s.H op = some (.ok v s.H)) : Did H0 Z0 A s d op (puB A d t) (x, e) :=
  ⟨v, s.H, ev, (fun _ h => by rw [hf] at h; cases h), Z, hv, puT_ok h hr⟩
theorem did_set {op : AOp} {v : Value} (hf : hfree op = true) (h : SemD H0 Z0 A e s Z hv) {a : AV} (ha : AVOK ⟨s.H, Z, hv⟩ e A.ob.length a v) (ev : evOp s.env s.H op = some (.ok v s.H)) : Did H0 Z0 A s d op ⟨A.ts, setS A.sl d a, A.ob⟩ e :=
  ⟨v, s.H, ev, (fun _ h => by rw [hf] at h; cases h), Z, hv, h.pure (Ex.refl e) fun _ => ha⟩
end
def binT (op : BinOp) (k : IntKind) : Option ((r : Ty) × (Int → Int → Option r.den)) := match op with
  | .add => some ⟨.int k, fun a b => some (k.wrap (a + b))⟩
  | .sub => some ⟨.int k, fun a b => some (k.wrap (a - b))⟩
  | .mul => some ⟨.int k, fun a b => some (k.wrap (a * b))⟩
  | .quo => some ⟨.int k, fun a b => if b = 0 then none else some (k.wrap (a.tdiv b))⟩
  | .rem => some ⟨.int k, fun a b => if b = 0 then none else some (a.tmod b)⟩
  | .and => some ⟨.int k, fun a b => some (k.wrap (BitVec.ofInt k.bits a &&& BitVec.ofInt k.bits b).toNat)⟩
  | .or => some ⟨.int k, fun a b => some (k.wrap (BitVec.ofInt k.bits a ||| BitVec.ofInt k.bits b).toNat)⟩
  | .xor => some ⟨.int k, fun a b => some (k.wrap (BitVec.ofInt k.bits a ^^^ BitVec.ofInt k.bits b).toNat)⟩
  | .andNot => some ⟨.int k, fun a b => some (k.wrap (BitVec.ofInt k.bits a &&& ~~~(BitVec.ofInt k.bits b)).toNat)⟩
  | .eql => some ⟨.bool, fun a b => some (a == b)⟩
  | .neq => some ⟨.bool, fun a b => some (a != b)⟩
  | .lss => some ⟨.bool, fun a b => some (decide (a < b))⟩
  | .leq => some ⟨.bool, fun a b => some (decide (a ≤ b))⟩
  | .gtr => some ⟨.bool, fun a b => some (decide (a > b))⟩
  | .geq => some ⟨.bool, fun a b => some (decide (a ≥ b))⟩
  | _ => none
theorem binT_ok {H : Hp} {Z : Nat → Prop} {op : BinOp} {k : IntKind} {r : Ty} {g : Int → Int → Option r.den} (h : binT op k = some ⟨r, g⟩) {a b : Int} {x : r.den} (hx : g a b = some x) : ∃ v, binO op (.int k a) (.int k b) = some v ∧ Rep H Z r x [v] := by
  cases op <;> simp only [binT, reduceCtorEq] at h
  all_goals first
    | (cases h; cases hx; exact ⟨_, by simp only [binO, ne_eq, not_true_eq_false, if_false], rfl⟩)
    | (cases h
       simp only at hx
       split at hx
       · cases hx
       · rename_i hb
         cases hx
         exact ⟨_, by simp only [binO, ne_eq, not_true_eq_false, if_false, if_neg hb], rfl⟩)
def shT (op : BinOp) (k : IntKind) : Option (Int → Int → Option Int) := match op with
  | .shl => some fun a b => if b < 0 then none else some (k.wrap (a * 2 ^ (min b.toNat k.bits)))
  | .shr => some fun a b => if b < 0 then none else some (a.fdiv (2 ^ (min b.toNat k.bits)))
  | _ => none
theorem shT_ok {op : BinOp} {k k' : IntKind} {g : Int → Int → Option Int} (h : shT op k = some g) {a b x : Int} (hx : g a b = some x) : binO op (.int k a) (.int k' b) = some (.int k x) := by
  cases op <;> simp only [shT, reduceCtorEq] at h
  all_goals
    cases h
    simp only at hx
    split at hx
    · cases hx
    · rename_i hb
      cases hx
      simp only [binO, if_neg hb]
def strT (op : BinOp) : Option ((r : Ty) × (ByteArray → ByteArray → Option r.den)) := match op with
  | .add => some ⟨.str, fun a b => if ((a.size + b.size : Nat) : Int) > IntKind.i64.max then none else some (a ++ b)⟩
  | .eql => some ⟨.bool, fun a b => some (a.toList == b.toList)⟩
  | .neq => some ⟨.bool, fun a b => some !(a.toList == b.toList)⟩
  | .lss => some ⟨.bool, fun a b => some (Op.bytesLess a.toList b.toList)⟩
  | .leq => some ⟨.bool, fun a b => some (Op.bytesLess a.toList b.toList || a.toList == b.toList)⟩
  | .gtr => some ⟨.bool, fun a b => some !(Op.bytesLess a.toList b.toList || a.toList == b.toList)⟩
  | .geq => some ⟨.bool, fun a b => some !(Op.bytesLess a.toList b.toList)⟩
  | _ => none
theorem strT_ok {H : Hp} {Z : Nat → Prop} {op : BinOp} {r : Ty} {g : ByteArray → ByteArray → Option r.den} (h : strT op = some ⟨r, g⟩) {a b : ByteArray} {x : r.den} (hx : g a b = some x) : ∃ v, binO op (.string a) (.string b) = some v ∧ Rep H Z r x [v] := by
  cases op <;> simp only [strT, reduceCtorEq] at h
  all_goals first
    | (cases h; cases hx; exact ⟨_, by simp only [binO], rfl⟩)
    | (cases h
       simp only at hx
       split at hx
       · cases hx
       · rename_i hb
         cases hx
         exact ⟨_, by simp only [binO, if_neg hb], rfl⟩)
def tyO2 (A : AState) (x y : Operand) : Option Ty := match tyO A x with
  | some t => some t
  | none => tyO A y
def trBin (A : AState) (d : Option Nat) (op : BinOp) (x y : Operand) : Option (Nx A) := match tyO A x, tyO A y with
  | some (.int k), some (.int k') => match shT op k with
    | some g => match exO A x (.int k), exO A y (.int k') with
      | some f, some f' => some (puT A d (.int k) fun e => g (f e) (f' e))
      | _, _ => none
    | none => match binT op k, exO A x (.int k), exO A y (.int k) with
      | some ⟨r, g⟩, some f, some f' => some (puT A d r fun e => g (f e) (f' e))
      | _, _, _ => none
  | some .str, some .str => match strT op, exO A x .str, exO A y .str with
    | some ⟨r, g⟩, some f, some f' => some (puT A d r fun e => g (f e) (f' e))
    | _, _, _ => none
  | _, _ => none
def trUn (A : AState) (d : Option Nat) (op : UnOp) (x : Operand) : Option (Nx A) := match op, tyO A x with
  | .neg, some (.int k) => match exO A x (.int k) with
    | some f => some (puE A d (.int k) fun e => k.wrap (0 - f e))
    | none => none
  | .xor, some (.int k) => match exO A x (.int k) with
    | some f => some (puE A d (.int k) fun e => k.wrap (BitVec.ofInt k.bits (if k.signed then -1 else k.max) ^^^ BitVec.ofInt k.bits (f e)).toNat)
    | none => none
  | .not, some .bool => match exO A x .bool with
    | some f => some (puE A d .bool fun e => !(f e))
    | none => none
  | _, _ => none
def trConvI (A : AState) (d : Option Nat) (k : IntKind) (x : Operand) : Option (Nx A) := match tyO A x with
  | some (.int k') => match exO A x (.int k') with
    | some f => some (puE A d (.int k) fun e => k.wrap (f e))
    | none => none
  | _ => none
section
variable {H0 : Hp} {Z0 Z : Nat → Prop} {A : AState} {e : Pe A.ts} {s : St} {hv : Nat → Value} {d : Option Nat} {nx : Nx A}
theorem puT_F {t : Ty} {f : Pe A.ts → Option t.den} {e' : Pe (puT A d t f).B.ts} (h : (puT A d t f).F e = some e') : ∃ x, f e = some x ∧ e' = (x, e) := by
  simp only [puT, nxB] at h
  cases hx : f e with
  | none => rw [hx] at h; cases h
  | some x => rw [hx] at h; cases h; exact ⟨x, rfl, rfl⟩
theorem trBin_ok (hs : SemD H0 Z0 A e s Z hv) {op : BinOp} {x y : Operand} (h : trBin A d op x y = some nx) {e' : Pe nx.B.ts} (he : nx.F e = some e') : Did H0 Z0 A s d (.bin op x y) nx.B e' := by
  unfold trBin at h
  split at h
  · split at h
    · rename_i g hg
      split at h
      · rename_i f f' hf hf'
        cases h
        obtain ⟨z, hz, rfl⟩ := puT_F he
        exact did_pure rfl hs (v := .int _ z) rfl (by simp only [evOp, exO_int hs hf, exO_int hs hf', shT_ok hg hz, Option.map_some])
      · cases h
    · split at h
      · rename_i r g f f' hg hf hf'
        cases h
        obtain ⟨z, hz, rfl⟩ := puT_F he
        obtain ⟨v, hv', hr⟩ := binT_ok (H := s.H) (Z := Z) hg hz
        exact did_pure rfl hs hr (by simp only [evOp, exO_int hs hf, exO_int hs hf', hv', Option.map_some])
      · cases h
  · split at h
    · rename_i r g f f' hg hf hf'
      cases h
      obtain ⟨z, hz, rfl⟩ := puT_F he
      obtain ⟨v, hv', hr⟩ := strT_ok (H := s.H) (Z := Z) hg hz
      exact did_pure rfl hs hr (by simp only [evOp, exO_str hs hf, exO_str hs hf', hv', Option.map_some])
    · cases h
  · cases h
theorem trUn_ok (hs : SemD H0 Z0 A e s Z hv) {op : UnOp} {x : Operand} (h : trUn A d op x = some nx) {e' : Pe nx.B.ts} (he : nx.F e = some e') : Did H0 Z0 A s d (.un op x) nx.B e' := by
  unfold trUn at h
  split at h
  · split at h
    · rename_i f hf
      cases h; cases he
      exact did_pure rfl hs (v := .int _ _) rfl (by simp only [evOp, exO_int hs hf, unO, Option.map_some])
    · cases h
  · split at h
    · rename_i f hf
      cases h; cases he
      exact did_pure rfl hs (v := .int _ _) rfl (by simp only [evOp, exO_int hs hf, unO, Option.map_some])
    · cases h
  · split at h
    · rename_i f hf
      cases h; cases he
      exact did_pure rfl hs (v := .bool _) rfl (by simp only [evOp, exO_bool hs hf, unO, Option.map_some])
    · cases h
  · cases h
theorem trConvI_ok (hs : SemD H0 Z0 A e s Z hv) {k : IntKind} {x : Operand} (h : trConvI A d k x = some nx) {e' : Pe nx.B.ts} (he : nx.F e = some e') : Did H0 Z0 A s d (.convI k x) nx.B e' := by
  unfold trConvI at h
  split at h
  · split at h
    · rename_i f hf
      cases h; cases he
      exact did_pure rfl hs (v := .int _ _) rfl (by simp only [evOp, exO_int hs hf])
    · cases h
  · cases h
end
end Go.Proofs.YtehbekgmemebjaaDoorEv
