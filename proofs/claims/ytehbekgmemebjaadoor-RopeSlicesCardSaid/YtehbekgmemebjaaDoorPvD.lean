import Derived.Test.YtehbekgmemebjaaDoorPvC
namespace Go.Proofs.YtehbekgmemebjaaDoorEv
open Go
set_option linter.unusedVariables false
set_option linter.unusedSimpArgs false
def opV (A : AState) : Operand → Option AV
  | .tmp i => look A.sl i
  | x => match opA A x with
    | some a => some (.v a)
    | none => none
def trMv (A : AState) (d : Option Nat) (x : Operand) : Option (Nx A) := match opV A x with
  | some a => some (stA A d a)
  | none => none
def trPick (A : AState) (d : Option Nat) (c x y : Operand) : Option (Nx A) := match opA A c with
  | some (.a (.cst (.bool b))) => trMv A d (if b then x else y)
  | _ => match exO A c .bool, tyO2 A x y with
    | some g, some (.int k) => match exO A x (.int k), exO A y (.int k) with
      | some f, some f' => some (puE A d (.int k) fun e => if g e = true then f e else f' e)
      | _, _ => none
    | some g, some .bool => match exO A x .bool, exO A y .bool with
      | some f, some f' => some (puE A d .bool fun e => if g e = true then f e else f' e)
      | _, _ => none
    | some g, some .str => match exO A x .str, exO A y .str with
      | some f, some f' => some (puE A d .str fun e => if g e = true then f e else f' e)
      | _, _ => none
    | _, _ => none
def trLenS (A : AState) (d : Option Nat) (x : Operand) : Option (Nx A) := match exO A x .str with
  | some f => some (puE A d (.int .i64) fun e => ((f e).size : Int))
  | none => none
def trLenL (A : AState) (d : Option Nat) (x : Operand) : Option (Nx A) := match opA A x, tyO A x with
  | some (.a .nil), _ => some (stA A d (.v (.a (.cst (.int .i64 0)))))
  | _, some (.sl t) => match exO A x (.sl t) with
    | some f => some (puE A d (.int .i64) fun e => ((f e).length : Int))
    | none => none
  | _, _ => none
def exI (A : AState) (x : Operand) : Option (Pe A.ts → Int) := match tyO A x with
  | some (.int k) => exO A x (.int k)
  | _ => none
def atB (s : ByteArray) (j : Int) : Option Int := if 0 ≤ j then (s[j.toNat]?).map fun b => (b.toNat : Int) else none
def trIxStr (A : AState) (d : Option Nat) (x i : Operand) : Option (Nx A) := match exO A x .str, exI A i with
  | some f, some g => some (puT A d (.int .u8) fun e => atB (f e) (g e))
  | _, _ => none
def trConvBS (A : AState) (d : Option Nat) (x : Operand) : Option (Nx A) := match exO A x (.sl (.int .u8)) with
  | some f => some (puE A d .str fun e => strOfNums (f e))
  | none => none
def trConvS (A : AState) (d : Option Nat) (x : Operand) : Option (Nx A) := match exO A x .str with
  | some f => some (puE A d .str f)
  | none => none
def exI? (A : AState) : Option Operand → Option (Pe A.ts → Option Int)
  | none => some fun _ => none
  | some x => match exI A x with
    | some f => some fun e => some (f e)
    | none => none
def bndHi (len cap : Nat) : Option Int → Option Nat
  | none => some len
  | some i => if 0 ≤ i ∧ i ≤ cap then some i.toNat else none
def bndLo (h : Nat) : Option Int → Option Nat
  | none => some 0
  | some i => if 0 ≤ i ∧ i ≤ h then some i.toNat else none
def cutS (s : ByteArray) (lo hi : Option Int) : Option ByteArray := (bndHi s.size s.size hi).bind fun h => (bndLo h lo).bind fun l => some (s.extract l h)
def trSlcS (A : AState) (d : Option Nat) (x : Operand) (lo hi : Option Operand) : Option (Nx A) := match exO A x .str, exI? A lo, exI? A hi with
  | some f, some g, some g' => some (puT A d .str fun e => cutS (f e) (g e) (g' e))
  | _, _, _ => none
def trMx (A : AState) (d : Option Nat) (x y : Operand) : Option (Nx A) := match tyO A x with
  | some (.int k) => match exO A x (.int k), exI A y with
    | some f, some g => some (puE A d (.int k) fun e => if g e > f e then g e else f e)
    | _, _ => none
  | _ => none
def trMn (A : AState) (d : Option Nat) (x y : Operand) : Option (Nx A) := match tyO A x with
  | some (.int k) => match exO A x (.int k), exI A y with
    | some f, some g => some (puE A d (.int k) fun e => if g e < f e then g e else f e)
    | _, _ => none
  | _ => none
def trEq (A : AState) (d : Option Nat) (kind : Nat) (neg : Bool) (x y : Operand) : Option (Nx A) := match kind with
  | 0 => match exO A x .bool, exO A y .bool with
    | some f, some g => some (puE A d .bool fun e => if neg then !(f e == g e) else (f e == g e))
    | _, _ => none
  | _ => none
def trExtract (A : AState) (d : Option Nat) (x : Operand) (i : Nat) : Option (Nx A) := match opV A x with
  | some (.tp l) => match l[i]? with
    | some a => some (stA A d (.v a))
    | none => none
  | _ => none
def wdA (A : AState) : At → Option Nat
  | .pu i => match lv A.ts i with
    | some ⟨t, _⟩ => some t.w
    | none => none
  | _ => some 1
def skipA (A : AState) : List At → Nat → Option (List At)
  | l, 0 => some l
  | [], _ + 1 => none
  | a :: l, o + 1 => match wdA A a with
    | some w => if w ≤ o + 1 then skipA A l (o + 1 - w) else none
    | none => none
def firstA (A : AState) : List At → Nat → Option (List At)
  | _, 0 => some []
  | [], _ + 1 => none
  | a :: l, n + 1 => match wdA A a with
    | some w => if w ≤ n + 1 then (match firstA A l (n + 1 - w) with
      | some r => some (a :: r)
      | none => none) else none
    | none => none
def subA (A : AState) (l : List At) (o n : Nat) : Option (List At) := match skipA A l o with
  | some r => firstA A r n
  | none => none
def widA (A : AState) : List At → Option Nat
  | [] => some 0
  | a :: l => match wdA A a, widA A l with
    | some w, some n => some (w + n)
    | _, _ => none
def repA (A : AState) (l : List At) (o : Nat) (l' : List At) : Option (List At) := match widA A l', firstA A l o, skipA A l o with
  | some n, some p, some r => match skipA A r n with
    | some q => some (p ++ l' ++ q)
    | none => none
  | _, _, _ => none
def atsV : AV1 → List At
  | .a x => [x]
  | .g l => l
def trFld (A : AState) (d : Option Nat) (agg : Bool) (o n : Nat) (x : Operand) : Option (Nx A) := match opA A x with
  | some (.g l) => if agg then (match subA A l o n with
      | some r => some (stA A d (.v (.g r)))
      | none => none) else (match subA A l o 1 with
      | some [a] => some (stA A d (.v (.a a)))
      | _ => none)
  | _ => none
def trOff (A : AState) (d : Option Nat) (x : Operand) (k : Nat) : Option (Nx A) := match opA A x with
  | some (.a (.bp j o)) => some (stA A d (.v (.a (.bp j (o + k)))))
  | some (.a (.ep j i o w)) => some (stA A d (.v (.a (.ep j i (o + k) w))))
  | some (.a (.sp i o)) => some (stA A d (.v (.a (.sp i (o + k)))))
  | some (.a (.ap j o i m w o2)) => some (stA A d (.v (.a (.ap j o i m w (o2 + k)))))
  | _ => none
def trIface (A : AState) (d : Option Nat) (t : Nat) (x : Operand) : Option (Nx A) := match opA A x with
  | some (.g []) => some (stA A d (.v (.a (.ifc t))))
  | _ => none
def trNil (A : AState) (d : Option Nat) (x : Operand) : Option (Nx A) := match opA A x with
  | some (.a (.bp j o)) => some (stA A d (.v (.a (.bp j o))))
  | some (.a (.ep j i o w)) => some (stA A d (.v (.a (.ep j i o w))))
  | some (.a (.sp i o)) => some (stA A d (.v (.a (.sp i o))))
  | some (.a (.fn f)) => some (stA A d (.v (.a (.fn f))))
  | _ => none
section
variable {H0 : Hp} {Z0 Z : Nat → Prop} {A : AState} {e : Pe A.ts} {s : St} {hv : Nat → Value} {d : Option Nat} {nx : Nx A}
theorem opV_ok (hs : SemD H0 Z0 A e s Z hv) {x : Operand} {a : AV} (h : opV A x = some a) : AVOK ⟨s.H, Z, hv⟩ e A.ob.length a (s.env x) := by
  cases x with
  | tmp i => exact hs.sl i _ h
  | const v =>
    simp only [opV] at h
    split at h
    · rename_i a ha
      cases h; exact opA_ok hs ha
    · cases h
  | func f =>
    simp only [opV] at h
    split at h
    · rename_i a ha
      cases h; exact opA_ok hs ha
    · cases h
  | global g => cases h
theorem trMv_ok (hs : SemD H0 Z0 A e s Z hv) {x : Operand} (h : trMv A d x = some nx) {e' : Pe nx.B.ts} (he : nx.F e = some e') : Did H0 Z0 A s d (.mv x) nx.B e' := by
  unfold trMv at h
  split at h
  · rename_i a ha
    cases h; cases he
    exact did_set rfl hs (opV_ok hs ha) rfl
  · cases h
theorem trPick_ok (hs : SemD H0 Z0 A e s Z hv) {c x y : Operand} (h : trPick A d c x y = some nx) {e' : Pe nx.B.ts} (he : nx.F e = some e') : Did H0 Z0 A s d (.pick c x y) nx.B e' := by
  unfold trPick at h
  split at h
  · rename_i b hb
    have hc : s.env c = .bool b := by
      have h1 := opA_ok hs hb
      have : [s.env c] = [Lt.val (.bool b)] := h1
      simpa [Lt.val] using this
    unfold trMv at h
    split at h
    · rename_i a ha
      cases h; cases he
      refine did_set rfl hs (v := if b then s.env x else s.env y) ?_ (by simp only [evOp, hc])
      have := opV_ok hs ha
      cases b <;> exact this
    · cases h
  · split at h
    · rename_i g k hg ht
      split at h
      · rename_i f f' hf hf'
        cases h; cases he
        refine did_pure rfl hs (v := .int _ _) rfl ?_
        simp only [evOp, exO_bool hs hg, exO_int hs hf, exO_int hs hf']
        by_cases hb : g e = true
        · simp [hb]
        · simp [hb]
      · cases h
    · rename_i g hg ht
      split at h
      · rename_i f f' hf hf'
        cases h; cases he
        refine did_pure rfl hs (v := .bool _) rfl ?_
        simp only [evOp, exO_bool hs hg, exO_bool hs hf, exO_bool hs hf']
        by_cases hb : g e = true
        · simp [hb]
        · simp [hb]
      · cases h
    · rename_i g hg ht
      split at h
      · rename_i f f' hf hf'
        cases h; cases he
        refine did_pure rfl hs (v := .string _) rfl ?_
        simp only [evOp, exO_bool hs hg, exO_str hs hf, exO_str hs hf']
        by_cases hb : g e = true
        · simp [hb]
        · simp [hb]
      · cases h
    · cases h
theorem trLenS_ok (hs : SemD H0 Z0 A e s Z hv) {x : Operand} (h : trLenS A d x = some nx) {e' : Pe nx.B.ts} (he : nx.F e = some e') : Did H0 Z0 A s d (.lenS x) nx.B e' := by
  unfold trLenS at h
  split at h
  · rename_i f hf
    cases h; cases he
    exact did_pure rfl hs (v := .int _ _) rfl (by simp only [evOp, exO_str hs hf])
  · cases h
theorem trLenL_ok (hs : SemD H0 Z0 A e s Z hv) {x : Operand} (h : trLenL A d x = some nx) {e' : Pe nx.B.ts} (he : nx.F e = some e') : Did H0 Z0 A s d (.lenL x) nx.B e' := by
  unfold trLenL at h
  split at h
  · rename_i hx
    cases h; cases he
    have h1 : [s.env x] = [.slice none 0 0] := opA_ok hs hx
    have h2 : s.env x = .slice none 0 0 := by simpa using h1
    exact did_set rfl hs (v := .int .i64 0) (show AVOK _ _ _ (.v (.a (.cst (.int .i64 0)))) _ from rfl) (by simp only [evOp, h2]; rfl)
  · split at h
    · rename_i f hf
      cases h; cases he
      obtain ⟨base, k, h1, _⟩ := exO_ok hs hf
      simp only [List.cons.injEq, and_true] at h1
      exact did_pure rfl hs (v := .int _ _) rfl (by simp only [evOp, h1])
    · cases h
  · cases h
theorem exI_ok (hs : SemD H0 Z0 A e s Z hv) {x : Operand} {f : Pe A.ts → Int} (h : exI A x = some f) : ∃ k, s.env x = .int k (f e) := by
  unfold exI at h
  split at h
  · exact ⟨_, exO_int hs h⟩
  · cases h
theorem trIxStr_ok (hs : SemD H0 Z0 A e s Z hv) {x i : Operand} (h : trIxStr A d x i = some nx) {e' : Pe nx.B.ts} (he : nx.F e = some e') : Did H0 Z0 A s d (.ixStr x i) nx.B e' := by
  unfold trIxStr at h
  split at h
  · rename_i f g hf hg
    cases h
    obtain ⟨z, hz, rfl⟩ := puT_F he
    obtain ⟨k, hk⟩ := exI_ok hs hg
    unfold atB at hz
    split at hz
    · rename_i h0
      cases hb : (f e)[(g e).toNat]? with
      | none => rw [hb] at hz; cases hz
      | some b =>
        rw [hb] at hz; cases hz
        exact did_pure rfl hs (v := .int .u8 b.toNat) rfl (by simp only [evOp, exO_str hs hf, hk, if_pos h0, hb, Option.map_some])
    · cases hz
  · cases h
theorem reps_u8 {H : Hp} {Z : Nat → Prop} : ∀ {l : List Int} {ps : List (List Value)}, All2 (Rep H Z (.int .u8)) l ps → ps.flatten = l.map (Value.int .u8)
  | [], [], _ => rfl
  | a :: l, p :: ps, ⟨h1, h2⟩ => by
    have : p = [.int .u8 a] := h1
    rw [List.flatten_cons, reps_u8 h2, this]; rfl
  | [], _ :: _, h => h.elim
  | _ :: _, [], h => h.elim
theorem intsO_map : ∀ l : List Int, intsO (l.map (Value.int .u8)) = some l
  | [] => rfl
  | a :: l => by
    have := intsO_map l
    unfold intsO at this ⊢
    rw [List.map_cons, List.mapM_cons, this]
    rfl
theorem rep_cells {H : Hp} {Z : Nat → Prop} {t : Ty} {l : List t.den} {v : Value} (h : Rep H Z (.sl t) l [v]) : ∃ ps, All2 (Rep H Z t) l ps ∧ sliceCells H t.w v = some ps.flatten ∧ lenO v = some l.length := by
  obtain ⟨base, k, h1, h2⟩ := h
  simp only [List.cons.injEq, and_true] at h1
  subst h1
  rcases h2 with ⟨rfl, h2⟩ | ⟨b, o, sp, bc, u, ro, ps, rest, rfl, hz, hg, hd, hl, _, hw0, _⟩
  · refine ⟨[], trivial, ?_, rfl⟩
    cases base with
    | none => rw [h2 rfl]; rfl
    | some a => obtain ⟨b, o, sp⟩ := a; simp [sliceCells]
  · refine ⟨ps, hl, ?_, rfl⟩
    simp only [sliceCells, hg]
    have hlen := reps_len hl
    split
    · rename_i h0
      have : l = [] := List.eq_nil_of_length_eq_zero h0
      subst this
      cases ps with
      | nil => rfl
      | cons _ _ => exact hl.elim
    · rename_i h0
      have hdl : bc.length - o = ps.flatten.length + rest.length := by rw [← List.length_drop, hd, List.length_append]
      have hpos : 0 < l.length * t.w := Nat.mul_pos (by omega) hw0
      rw [if_pos (by rw [hlen] at hdl; omega), hd, ← hlen, List.take_left]
theorem trConvBS_ok (hs : SemD H0 Z0 A e s Z hv) {x : Operand} (h : trConvBS A d x = some nx) {e' : Pe nx.B.ts} (he : nx.F e = some e') : Did H0 Z0 A s d (.convBS x) nx.B e' := by
  unfold trConvBS at h
  split at h
  · rename_i f hf
    cases h; cases he
    have h0 := exO_ok hs hf
    obtain ⟨ps, h1, h2, _⟩ := rep_cells h0
    obtain ⟨base, k, h3, _⟩ := h0
    simp only [List.cons.injEq, and_true] at h3
    rw [h3] at h2
    have h2' : sliceCells s.H 1 (.slice base (f e).length k) = some ((f e).map (Value.int .u8)) := by rw [← reps_u8 h1]; exact h2
    refine ⟨.string (strOfNums (f e)), s.H, ?_, fun _ _ => by simp [eqV], Z, hv, puT_ok hs rfl⟩
    simp only [evOp, h3, h2', Option.bind_some, intsO_map, Option.map_some]
  · cases h
theorem trConvS_ok (hs : SemD H0 Z0 A e s Z hv) {x : Operand} (h : trConvS A d x = some nx) {e' : Pe nx.B.ts} (he : nx.F e = some e') : Did H0 Z0 A s d (.convS x) nx.B e' := by
  unfold trConvS at h
  split at h
  · rename_i f hf
    cases h; cases he
    exact did_pure rfl hs (v := .string _) rfl (by simp only [evOp, exO_str hs hf])
  · cases h
theorem exI?_ok (hs : SemD H0 Z0 A e s Z hv) {x : Option Operand} {f : Pe A.ts → Option Int} (h : exI? A x = some f) : (x = none ∧ f e = none) ∨ ∃ y k i, x = some y ∧ s.env y = .int k i ∧ f e = some i := by
  cases x with
  | none => cases h; exact .inl ⟨rfl, rfl⟩
  | some y =>
    simp only [exI?] at h
    split at h
    · rename_i g hg
      cases h
      obtain ⟨k, hk⟩ := exI_ok hs hg
      exact .inr ⟨y, k, g e, rfl, hk, rfl⟩
    · cases h
theorem bounds_ok (hs : SemD H0 Z0 A e s Z hv) {lo hi : Option Operand} {g g' : Pe A.ts → Option Int} (h1 : exI? A lo = some g) (h2 : exI? A hi = some g') {len cap h l : Nat} (e1 : bndHi len cap (g' e) = some h) (e2 : bndLo h (g e) = some l) :
    boundsO len cap (lo.map s.env) (hi.map s.env) none = some (l, h, cap) := by
  have a1 : (if (hi.map s.env).isNone && (none : Option Value).isSome then none else optBound cap len (hi.map s.env)) = some h := by
    rcases exI?_ok hs h2 with ⟨rfl, e0⟩ | ⟨y, k, i, rfl, h3, h4⟩
    · rw [e0] at e1; cases e1; rfl
    · rw [h4] at e1
      simp only [bndHi] at e1
      split at e1
      · rename_i hb
        cases e1
        simp only [Option.map_some, h3, optBound, boundO, Option.isNone_some, Bool.false_and, Bool.false_eq_true, if_false]
        rw [if_pos (by simpa using hb)]
      · cases e1
  have a2 : optBound h 0 (lo.map s.env) = some l := by
    rcases exI?_ok hs h1 with ⟨rfl, e0⟩ | ⟨y, k, i, rfl, h3, h4⟩
    · rw [e0] at e2; cases e2; rfl
    · rw [h4] at e2
      simp only [bndLo] at e2
      split at e2
      · rename_i hb
        cases e2
        simp only [Option.map_some, h3, optBound, boundO]
        rw [if_pos (by simpa using hb)]
      · cases e2
  have a0 : optBound cap cap (none : Option Value) = some cap := rfl
  simp only [boundsO, a0, Option.bind_some, a1, a2]
theorem trSlcS_ok (hs : SemD H0 Z0 A e s Z hv) {x : Operand} {lo hi : Option Operand} (h : trSlcS A d x lo hi = some nx) {e' : Pe nx.B.ts} (he : nx.F e = some e') : Did H0 Z0 A s d (.slcS x lo hi) nx.B e' := by
  unfold trSlcS at h
  split at h
  · rename_i f g g' hf hg hg'
    cases h
    obtain ⟨z, hz, rfl⟩ := puT_F he
    unfold cutS at hz
    obtain ⟨hh, e1, hz⟩ := Option.bind_eq_some_iff.1 hz
    obtain ⟨l, e2, hz⟩ := Option.bind_eq_some_iff.1 hz
    cases hz
    exact did_pure rfl hs (v := .string _) rfl (by simp only [evOp, exO_str hs hf, bounds_ok hs hg hg' e1 e2, Option.map_some])
  · cases h
theorem trMx_ok (hs : SemD H0 Z0 A e s Z hv) {x y : Operand} (h : trMx A d x y = some nx) {e' : Pe nx.B.ts} (he : nx.F e = some e') : Did H0 Z0 A s d (.mx x y) nx.B e' := by
  unfold trMx at h
  split at h
  · split at h
    · rename_i f g hf hg
      cases h; cases he
      obtain ⟨k, hk⟩ := exI_ok hs hg
      exact did_pure rfl hs (v := .int _ _) rfl (by simp only [evOp, exO_int hs hf, hk, mx2, Option.map_some])
    · cases h
  · cases h
theorem trMn_ok (hs : SemD H0 Z0 A e s Z hv) {x y : Operand} (h : trMn A d x y = some nx) {e' : Pe nx.B.ts} (he : nx.F e = some e') : Did H0 Z0 A s d (.mn x y) nx.B e' := by
  unfold trMn at h
  split at h
  · split at h
    · rename_i f g hf hg
      cases h; cases he
      obtain ⟨k, hk⟩ := exI_ok hs hg
      exact did_pure rfl hs (v := .int _ _) rfl (by simp only [evOp, exO_int hs hf, hk, mn2, Option.map_some])
    · cases h
  · cases h
theorem trEq_ok (hs : SemD H0 Z0 A e s Z hv) {kind : Nat} {neg : Bool} {x y : Operand} (h : trEq A d kind neg x y = some nx) {e' : Pe nx.B.ts} (he : nx.F e = some e') : Did H0 Z0 A s d (.eq kind neg x y) nx.B e' := by
  unfold trEq at h
  split at h
  · split at h
    · rename_i f g hf hg
      cases h; cases he
      exact did_pure rfl hs (v := .bool _) rfl (by simp only [evOp, exO_bool hs hf, exO_bool hs hg, eqO, Option.map_some])
    · cases h
  · cases h
theorem All2.at {α β : Type} {R : α → β → Prop} {l : List α} {m : List β} (h : All2 R l m) {i : Nat} {a : α} (e : l[i]? = some a) : ∃ b, m[i]? = some b ∧ R a b := h.get i e
theorem trExtract_ok (hs : SemD H0 Z0 A e s Z hv) {x : Operand} {i : Nat} (h : trExtract A d x i = some nx) {e' : Pe nx.B.ts} (he : nx.F e = some e') : Did H0 Z0 A s d (.extract x i) nx.B e' := by
  unfold trExtract at h
  split at h
  · rename_i l hx
    split at h
    · rename_i a ha
      cases h; cases he
      obtain ⟨vs, h1, h2⟩ := opV_ok hs hx
      obtain ⟨v, h3, h4⟩ := h2.get i ha
      refine did_set rfl hs (v := v) (show AVOK _ _ _ (.v a) v from h4) ?_
      have : vs.toArray[i]? = some v := by simpa using h3
      simp only [evOp, h1, this, Option.map_some]
    · cases h
  · cases h
theorem wdA_ok {c : Cx} {n : Nat} {a : At} {cs : List Value} {w : Nat} (h : wdA A a = some w) (ha : AtOK c e n a cs) : cs.length = w := by
  cases a with
  | pu i =>
    obtain ⟨t, x, h1, h2⟩ := ha
    obtain ⟨f, h3, _⟩ := lk_lv h1
    simp only [wdA, h3] at h
    cases h
    exact h2.len
  | cst l => cases h; cases ha; rfl
  | nil => cases h; cases ha; rfl
  | hd j => cases h; obtain ⟨_, _, rfl⟩ := ha; rfl
  | bp j o => cases h; obtain ⟨_, b, _, rfl⟩ := ha; rfl
  | ep j i o w => cases h; obtain ⟨_, x, b, o, sp, len, k, _, _, _, _, rfl⟩ := ha; rfl
  | sp i o => cases h; obtain ⟨t, x, b, o, bc, u, ro, cs0, rest, _, rfl, _⟩ := ha; rfl
  | fn f => cases h; cases ha; rfl
  | ifc f => cases h; cases ha; rfl
  | ap j off i m w o2 => cases h; obtain ⟨_, x, b, _, _, _, _, rfl⟩ := ha; rfl
theorem skipA_ok {c : Cx} {n : Nat} : ∀ {l : List At} {o : Nat} {r : List At} {cs : List Value}, skipA A l o = some r → AtsOK c e n l cs → ∃ p q, cs = p ++ q ∧ p.length = o ∧ AtsOK c e n r q := by
  intro l
  induction l with
  | nil =>
    intro o r cs h ha
    cases o with
    | zero => simp only [skipA] at h; cases h; exact ⟨[], cs, rfl, rfl, ha⟩
    | succ o => simp [skipA] at h
  | cons a l ih =>
    intro o r cs h ha
    cases o with
    | zero => simp only [skipA] at h; cases h; exact ⟨[], cs, rfl, rfl, ha⟩
    | succ o =>
      simp only [skipA] at h
      split at h
      · rename_i w hw
        split at h
        · rename_i hle
          obtain ⟨p, q, rfl, h1, h2⟩ := ha.cons
          have hp := wdA_ok hw h1
          obtain ⟨p', q', rfl, h3, h4⟩ := ih h h2
          exact ⟨p ++ p', q', by rw [List.append_assoc], by rw [List.length_append]; omega, h4⟩
        · cases h
      · cases h
theorem firstA_ok {c : Cx} {n : Nat} : ∀ {l : List At} {m : Nat} {r : List At} {cs : List Value}, firstA A l m = some r → AtsOK c e n l cs → ∃ p q, cs = p ++ q ∧ p.length = m ∧ AtsOK c e n r p := by
  intro l
  induction l with
  | nil =>
    intro m r cs h ha
    cases m with
    | zero => simp only [firstA] at h; cases h; exact ⟨[], cs, rfl, rfl, [], rfl, trivial⟩
    | succ m => simp [firstA] at h
  | cons a l ih =>
    intro m r cs h ha
    cases m with
    | zero => simp only [firstA] at h; cases h; exact ⟨[], cs, rfl, rfl, [], rfl, trivial⟩
    | succ m =>
      simp only [firstA] at h
      split at h
      · rename_i w hw
        split at h
        · rename_i hle
          split at h
          · rename_i r' hr'
            cases h
            obtain ⟨p, q, rfl, h1, h2⟩ := ha.cons
            have hp := wdA_ok hw h1
            obtain ⟨p', q', rfl, h3, h4⟩ := ih hr' h2
            exact ⟨p ++ p', q', by rw [List.append_assoc], by rw [List.length_append]; omega, .mk h1 h4⟩
          · cases h
        · cases h
      · cases h
theorem subA_ok {c : Cx} {n : Nat} {l r : List At} {o m : Nat} {cs : List Value} (h : subA A l o m = some r) (ha : AtsOK c e n l cs) : o + m ≤ cs.length ∧ AtsOK c e n r ((cs.drop o).take m) := by
  unfold subA at h
  split at h
  · rename_i r' hr'
    obtain ⟨p, q, rfl, h1, h2⟩ := skipA_ok hr' ha
    obtain ⟨p', q', rfl, h3, h4⟩ := firstA_ok h h2
    subst h1 h3
    refine ⟨by simp only [List.length_append]; omega, ?_⟩
    rw [List.drop_left, List.take_left]; exact h4
  · cases h
theorem widA_ok {c : Cx} {n : Nat} : ∀ {l : List At} {m : Nat} {cs : List Value}, widA A l = some m → AtsOK c e n l cs → cs.length = m := by
  intro l
  induction l with
  | nil => intro m cs h ha; cases h; rw [ha.nil']; rfl
  | cons a l ih =>
    intro m cs h ha
    simp only [widA] at h
    split at h
    · rename_i w k h1 h2
      cases h
      obtain ⟨p, q, rfl, h3, h4⟩ := ha.cons
      rw [List.length_append, wdA_ok h1 h3, ih h2 h4]
    · cases h
theorem repA_ok {c : Cx} {n : Nat} {l l' r : List At} {o : Nat} {cs vs : List Value} (h : repA A l o l' = some r) (ha : AtsOK c e n l cs) (hv' : AtsOK c e n l' vs) : o + vs.length ≤ cs.length ∧ AtsOK c e n r (cs.take o ++ vs ++ cs.drop (o + vs.length)) := by
  unfold repA at h
  split at h
  · rename_i m p q h1 h2 h3
    split at h
    · rename_i q' h4
      cases h
      have hm := widA_ok h1 hv'
      obtain ⟨p1, p2, rfl, a1, a2⟩ := firstA_ok h2 ha
      obtain ⟨q1, q2, b0, b1, b2⟩ := skipA_ok h3 ha
      obtain ⟨rfl, rfl⟩ := List.append_inj b0 (a1.trans b1.symm)
      obtain ⟨r1, r2, rfl, c1, c2⟩ := skipA_ok h4 b2
      subst a1 hm
      refine ⟨by simp only [List.length_append]; omega, ?_⟩
      rw [List.take_left, ← List.drop_drop, List.drop_left, ← c1, List.drop_left]
      exact (a2.append hv').append c2
    · cases h
  · cases h
theorem trFld_ok (hs : SemD H0 Z0 A e s Z hv) {agg : Bool} {o n : Nat} {x : Operand} (h : trFld A d agg o n x = some nx) {e' : Pe nx.B.ts} (he : nx.F e = some e') : Did H0 Z0 A s d (.fld agg o n x) nx.B e' := by
  unfold trFld at h
  split at h
  · rename_i l hx
    obtain ⟨cs, h1, h2⟩ := opA_ok hs hx
    split at h
    · rename_i hg
      subst hg
      split at h
      · rename_i r hr
        cases h; cases he
        obtain ⟨h3, h4⟩ := subA_ok hr h2
        refine did_set rfl hs (v := .agg (cs.toArray.extract o (o + n))) ?_ ?_
        · exact ⟨(cs.drop o).take n, by simp, h4⟩
        · simp only [evOp, h1, if_true]
          rw [if_pos (by simpa using h3)]
      · cases h
    · rename_i hg
      split at h
      · rename_i a hr
        cases h; cases he
        obtain ⟨h3, h4⟩ := subA_ok hr h2
        have h5 := h4.one
        have hlt : o < cs.length := by omega
        have e1 : (cs.drop o).take 1 = [cs[o]] := by
          rw [List.drop_eq_getElem_cons hlt]; rfl
        rw [e1] at h5
        refine did_set rfl hs (v := cs[o]) (show AVOK _ _ _ (.v (.a a)) _ from h5) ?_
        have hag : agg = false := by simpa using hg
        subst hag
        have : cs.toArray[o]? = some cs[o] := by simp [hlt]
        simp only [evOp, h1, this, Option.map_some, Bool.false_eq_true, if_false]
      · cases h
  · cases h
theorem trOff_ok (hs : SemD H0 Z0 A e s Z hv) {x : Operand} {k : Nat} (h : trOff A d x k = some nx) {e' : Pe nx.B.ts} (he : nx.F e = some e') : Did H0 Z0 A s d (.off x k) nx.B e' := by
  unfold trOff at h
  split at h
  · rename_i j o hx
    cases h; cases he
    obtain ⟨h1, b, h2, h3⟩ := opA_ok hs hx
    simp only [List.cons.injEq, and_true] at h3
    exact did_set rfl hs (v := .pointer (some ⟨b, o + k, none⟩)) ⟨h1, b, h2, rfl⟩ (by simp only [evOp, h3])
  · rename_i j i o w hx
    cases h; cases he
    obtain ⟨h1, y, b, o', sp, len, m, h2, h3, h4, h5, h6⟩ := opA_ok hs hx
    simp only [List.cons.injEq, and_true] at h6
    exact did_set rfl hs (v := .pointer (some ⟨b, o' + y.toNat * w + (o + k), none⟩)) ⟨h1, y, b, o', sp, len, m, h2, h3, h4, h5, rfl⟩ (by simp only [evOp, h6]; simp only [Nat.add_assoc])
  · rename_i i o hx
    cases h; cases he
    obtain ⟨t, y, b, o', bc, u, ro, cs0, rest, h1, h2, h3⟩ := opA_ok hs hx
    simp only [List.cons.injEq, and_true] at h2
    exact did_set rfl hs (v := .pointer (some ⟨b, o' + (o + k), none⟩)) ⟨t, y, b, o', bc, u, ro, cs0, rest, h1, rfl, h3⟩ (by simp only [evOp, h2]; simp only [Nat.add_assoc])
  · rename_i j o i m w o2 hx
    cases h; cases he
    obtain ⟨h1, y, b, h2, h3, h4, h5, h6⟩ := opA_ok hs hx
    simp only [List.cons.injEq, and_true] at h6
    exact did_set rfl hs (v := .pointer (some ⟨b, o + y.toNat * w + (o2 + k), none⟩)) ⟨h1, y, b, h2, h3, h4, h5, rfl⟩ (by simp only [evOp, h6]; simp only [Nat.add_assoc])
  · cases h
theorem trNil_ok (hs : SemD H0 Z0 A e s Z hv) {x : Operand} (h : trNil A d x = some nx) {e' : Pe nx.B.ts} (he : nx.F e = some e') : Did H0 Z0 A s d (.nilchk x) nx.B e' := by
  unfold trNil at h
  split at h
  · rename_i j o hx
    cases h; cases he
    have h0 := opA_ok hs hx
    obtain ⟨_, b, _, h3⟩ := opA_ok hs hx
    simp only [List.cons.injEq, and_true] at h3
    exact did_set rfl hs h0 (by simp only [evOp, h3])
  · rename_i j i o w hx
    cases h; cases he
    have h0 := opA_ok hs hx
    obtain ⟨_, y, b, o', sp, len, m, _, _, _, _, h6⟩ := opA_ok hs hx
    simp only [List.cons.injEq, and_true] at h6
    exact did_set rfl hs h0 (by simp only [evOp, h6])
  · rename_i i o hx
    cases h; cases he
    have h0 := opA_ok hs hx
    obtain ⟨t, y, b, o', bc, u, ro, cs0, rest, _, h2, _⟩ := opA_ok hs hx
    simp only [List.cons.injEq, and_true] at h2
    exact did_set rfl hs h0 (by simp only [evOp, h2])
  · rename_i f hx
    cases h; cases he
    have h0 := opA_ok hs hx
    have h1 : [s.env x] = [.func (.func f) #[] #[]] := h0
    simp only [List.cons.injEq, and_true] at h1
    exact did_set rfl hs h0 (by simp only [evOp, h1])
  · cases h
theorem trIface_ok (hs : SemD H0 Z0 A e s Z hv) {t : Nat} {x : Operand} (h : trIface A d t x = some nx) {e' : Pe nx.B.ts} (he : nx.F e = some e') : Did H0 Z0 A s d (.iface t x) nx.B e' := by
  unfold trIface at h
  split at h
  · rename_i hx
    cases h; cases he
    obtain ⟨cs, h1, h2⟩ := opA_ok hs hx
    have h3 := h2.nil'
    subst h3
    exact did_set rfl hs (v := .iface t (.agg #[])) (show AVOK _ _ _ (.v (.a (.ifc t))) _ from rfl) (by simp only [evOp, h1])
  · cases h
end
end Go.Proofs.YtehbekgmemebjaaDoorEv
