import Derived.Calls
import Derived.Defers
import Derived.Recover
import Derived.Laws.BytesArg
namespace Go.Proofs.YtehbekgmemebjaaDoorEv
open Go
set_option linter.unusedVariables false
set_option linter.unusedSimpArgs false
noncomputable section
inductive Tr (α : Type) where
  | nil
  | node (v : Option α) (l r : Tr α)
namespace Tr
variable {α : Type}
def get (t : Tr α) : Nat → Option α := Tr.rec (motive := fun _ => Nat → Option α) (fun _ => none) (fun v _ _ l r k => cond (Nat.beq k 0) v (cond (Nat.beq (Nat.mod k 2) 1) (l (Nat.div k 2)) (r (Nat.pred (Nat.div k 2))))) t
def nodeP (f : Tr α → Nat → α → Tr α) (v : Option α) (l r : Tr α) (k : Nat) (x : α) : Tr α := cond (Nat.beq k 0) (node (some x) l r) (cond (Nat.beq (Nat.mod k 2) 1) (node v (f l (Nat.div k 2) x) r) (node v l (f r (Nat.pred (Nat.div k 2)) x)))
def put (f : Nat) : Tr α → Nat → α → Tr α := Nat.rec (motive := fun _ => Tr α → Nat → α → Tr α) (fun t _ _ => t) (fun _ ih t k x => Tr.casesOn t (nodeP ih none nil nil k x) (fun v l r => nodeP ih v l r k x)) f
theorem cond_beq {β : Type} (a b : Nat) (x y : β) : cond (Nat.beq a b) x y = if a = b then x else y := by
  by_cases h : a = b
  · subst h
    have : Nat.beq a a = true := by induction a with
      | zero => rfl
      | succ a ih => exact ih
    rw [this, if_pos rfl]; rfl
  · have : Nat.beq a b = false := Bool.eq_false_iff.2 fun e => h (Nat.eq_of_beq_eq_true e)
    rw [this, if_neg h]; rfl
theorem get_nil (k : Nat) : (nil : Tr α).get k = none := rfl
theorem get_node (v : Option α) (l r : Tr α) (k : Nat) : (node v l r).get k = if k = 0 then v else if k % 2 = 1 then l.get (k / 2) else r.get (k / 2 - 1) := by
  have h : (node v l r).get k = cond (Nat.beq k 0) v (cond (Nat.beq (Nat.mod k 2) 1) (l.get (Nat.div k 2)) (r.get (Nat.pred (Nat.div k 2)))) := rfl
  rw [h, cond_beq, cond_beq]; rfl
theorem put_nil (f : Nat) (k : Nat) (x : α) : put (f + 1) nil k x = if k = 0 then node (some x) nil nil else if k % 2 = 1 then node none (put f nil (k / 2) x) nil else node none nil (put f nil (k / 2 - 1) x) := by
  have h : put (f + 1) nil k x = nodeP (put f) none nil nil k x := rfl
  rw [h]; unfold nodeP; rw [cond_beq, cond_beq]; rfl
theorem put_node (f : Nat) (v : Option α) (l r : Tr α) (k : Nat) (x : α) : put (f + 1) (node v l r) k x = if k = 0 then node (some x) l r else if k % 2 = 1 then node v (put f l (k / 2) x) r else node v l (put f r (k / 2 - 1) x) := by
  have h : put (f + 1) (node v l r) k x = nodeP (put f) v l r k x := rfl
  rw [h]; unfold nodeP; rw [cond_beq, cond_beq]; rfl
def set (t : Tr α) (k : Nat) (x : α) : Tr α := put (k + 1) t k x
theorem get_put : ∀ (f : Nat) (t : Tr α) (k : Nat) (x : α) (j : Nat), k < f → (put f t k x).get j = if k = j then some x else t.get j := by
  intro f
  induction f with
  | zero => intro t k x j h; omega
  | succ f ih =>
    intro t k x j h
    cases t with
    | nil =>
      rw [put_nil]
      by_cases h0 : k = 0
      · subst h0
        by_cases hj : j = 0
        · subst hj; simp [get_node, get_nil]
        · rw [if_pos rfl]; simp [get_node, get_nil, hj, Ne.symm hj]
      · rw [if_neg h0]
        by_cases hk : k % 2 = 1
        · rw [if_pos hk]
          simp only [get_node, get_nil]
          by_cases hj : j = 0
          · subst hj; simp; omega
          · rw [if_neg hj]
            by_cases hj2 : j % 2 = 1
            · rw [if_pos hj2, ih _ _ _ _ (by omega)]
              simp only [get_node, get_nil]
              by_cases e : k / 2 = j / 2
              · rw [if_pos e, if_pos (by omega)]
              · rw [if_neg e, if_neg (by omega)]
            · rw [if_neg hj2, if_neg (by omega)]
        · rw [if_neg hk]
          simp only [get_node, get_nil]
          by_cases hj : j = 0
          · subst hj; simp; omega
          · rw [if_neg hj]
            by_cases hj2 : j % 2 = 1
            · rw [if_pos hj2, if_neg (by omega)]
            · rw [if_neg hj2, ih _ _ _ _ (by omega)]
              simp only [get_node, get_nil]
              by_cases e : k / 2 - 1 = j / 2 - 1
              · rw [if_pos e, if_pos (by omega)]
              · rw [if_neg e, if_neg (by omega)]
    | node v l r =>
      rw [put_node]
      by_cases h0 : k = 0
      · subst h0
        by_cases hj : j = 0
        · subst hj; simp [get_node, get_nil]
        · rw [if_pos rfl]; simp [get_node, get_nil, hj, Ne.symm hj]
      · rw [if_neg h0]
        by_cases hk : k % 2 = 1
        · rw [if_pos hk]
          simp only [get_node, get_nil]
          by_cases hj : j = 0
          · subst hj; simp; omega
          · rw [if_neg hj, if_neg hj]
            by_cases hj2 : j % 2 = 1
            · rw [if_pos hj2, if_pos hj2, ih _ _ _ _ (by omega)]
              by_cases e : k / 2 = j / 2
              · rw [if_pos e, if_pos (by omega)]
              · rw [if_neg e, if_neg (by omega)]
            · rw [if_neg hj2, if_neg hj2, if_neg (by omega)]
        · rw [if_neg hk]
          simp only [get_node, get_nil]
          by_cases hj : j = 0
          · subst hj; simp; omega
          · rw [if_neg hj, if_neg hj]
            by_cases hj2 : j % 2 = 1
            · rw [if_pos hj2, if_pos hj2, if_neg (by omega)]
            · rw [if_neg hj2, if_neg hj2, ih _ _ _ _ (by omega)]
              by_cases e : k / 2 - 1 = j / 2 - 1
              · rw [if_pos e, if_pos (by omega)]
              · rw [if_neg e, if_neg (by omega)]
theorem get_set (t : Tr α) (k : Nat) (x : α) (j : Nat) : (t.set k x).get j = if k = j then some x else t.get j := get_put _ _ _ _ _ (Nat.lt_succ_self k)
end Tr
structure UT where
  u : Nat
  ty : Nat
  z : Bool
inductive AObj where
  | cells (cs : List Value) (u : UT) (ro : Bool)
  | map (es : List MapEntry) (clock : Nat)
  | iter (s : ByteArray) (pos : Nat)
  | dead
structure Hp where
  size : Nat
  tr : Tr AObj
namespace Hp
def get (H : Hp) (b : Nat) : Option AObj := H.tr.get b
def put (H : Hp) (b : Nat) (o : AObj) : Hp := ⟨H.size, H.tr.set b o⟩
def new (H : Hp) (o : AObj) : Hp := ⟨H.size + 1, H.tr.set H.size o⟩
theorem get_put (H : Hp) (b : Nat) (o : AObj) (j : Nat) : (H.put b o).get j = if b = j then some o else H.get j := Tr.get_set _ _ _ _
theorem get_new (H : Hp) (o : AObj) (j : Nat) : (H.new o).get j = if H.size = j then some o else H.get j := Tr.get_set _ _ _ _
theorem size_put (H : Hp) (b : Nat) (o : AObj) : (H.put b o).size = H.size := rfl
theorem size_new (H : Hp) (o : AObj) : (H.new o).size = H.size + 1 := rfl
end Hp
def isCell : Value → Bool
  | .agg _ | .tuple _ => false
  | _ => true
def flat : Nat → Value → Bool
  | _, .bool _ | _, .int _ _ | _, .string _ | _, .pointer none | _, .map none | _, .nilFunc | _, .nilIface => true
  | _, .slice none n k => n == 0 && k == 0
  | f + 1, .agg cs => cs.all (flat f)
  | f + 1, .tuple cs => cs.all (flat f)
  | f + 1, .iface _ v => flat f v
  | f + 1, .func _ a b => a.all (flat f) && b.all (flat f)
  | _, _ => false
inductive AOp where
  | mv (x : Operand)
  | pick (c a b : Operand)
  | new (ty : Nat) (zero : List Value)
  | box (ty : Nat) (x : Operand)
  | build (zero : Array Value) (places : Array (Nat × Nat)) (parts : Array (Nat × Operand))
  | buildA (zero : Array Value) (size : Nat) (parts : Array (Nat × Operand))
  | bslice (ty : Nat) (zero : Array Value) (size len : Nat) (parts : Array (Nat × Operand))
  | load (a : Operand)
  | loadA (n : Nat) (a : Operand)
  | store (n : Nat) (a x : Operand)
  | nilchk (x : Operand)
  | bin (op : BinOp) (x y : Operand)
  | eq (kind : Nat) (neg : Bool) (x y : Operand)
  | un (op : UnOp) (x : Operand)
  | convI (k : IntKind) (x : Operand)
  | convBS (x : Operand)
  | convS (x : Operand)
  | convSB (ty : Nat) (x : Operand)
  | iface (t : TypeId) (x : Operand)
  | func (fn : Fn) (first captured : Array Operand)
  | mkmap
  | mkslice (ty : Nat) (zero : Array Value) (size bytes : Nat) (len cap : Operand)
  | slc (size : Nat) (x : Operand) (lo hi mx : Option Operand)
  | slcS (x : Operand) (lo hi : Option Operand)
  | slcA (n size : Nat) (x : Operand) (lo hi mx : Option Operand)
  | off (x : Operand) (k : Nat)
  | fld (agg : Bool) (o n : Nat) (x : Operand)
  | ixS (size : Nat) (x i : Operand)
  | ixA (n size : Nat) (x i : Operand)
  | ixStr (x i : Operand)
  | ixAgg (agg : Bool) (n size : Nat) (x i : Operand)
  | lookup (kd : Nat) (zero : Value) (x i : Operand) (ok : Bool)
  | mapUpd (kd : Nat) (m k x : Operand)
  | rangeS (x : Operand)
  | nextS (x : Operand)
  | assert (t : TypeId) (zero : Value) (x : Operand) (ok : Bool)
  | extract (x : Operand) (i : Nat)
  | call (f : Operand) (args : Array Operand)
  | lenS (x : Operand)
  | lenL (x : Operand)
  | lenM (x : Operand)
  | lenC (n : Nat)
  | append (ty size bytes : Nat) (s x : Operand)
  | copy (size : Nat) (d s : Operand)
  | mx (x y : Operand)
  | mn (x y : Operand)
  | delete (kd : Nat) (m k : Operand)
  | defer (f : Operand) (args : Array Operand)
  | recover
  | panic (x : Operand)
  | claimN (b ty : Nat) (zero : List Value)
  | claimB (b ty : Nat) (x : Operand)
  | claimS (b ty : Nat) (zero : Array Value) (size len : Nat) (parts : Array (Nat × Operand))
  | claimM (b ty : Nat) (zero : Array Value) (size bytes : Nat) (len cap : Operand)
structure AOpr where
  dst : Option Nat
  op : AOp
  guard : Option (Option Nat × Bool)
structure NS where
  m : Nat
def NS.contains (s : NS) (k : Nat) : Bool := Nat.beq (Nat.land (Nat.shiftRight s.m k) 1) 1
instance : Membership Nat NS := ⟨fun s k => s.contains k = true⟩
@[simp] theorem NS.contains_iff {s : NS} {k : Nat} : s.contains k = true ↔ k ∈ s := Iff.rfl
theorem nbeq_refl : ∀ a : Nat, Nat.beq a a = true
  | 0 => rfl
  | a + 1 => nbeq_refl a
theorem nbeq_iff {a b : Nat} : Nat.beq a b = true ↔ a = b := ⟨Nat.eq_of_beq_eq_true, fun h => h ▸ nbeq_refl a⟩
theorem NS.contains_eq (s : NS) (k : Nat) : s.contains k = s.m.testBit k := by
  unfold NS.contains
  rw [Bool.eq_iff_iff, nbeq_iff]
  have h : Nat.land (Nat.shiftRight s.m k) 1 = (s.m >>> k) % 2 := Nat.and_one_is_mod _
  rw [h, Nat.testBit_eq_decide_div_mod_eq, Nat.shiftRight_eq_div_pow]
  simp
structure DOpr where
  o : AOpr
  B : NS
  chain : Bool
inductive ACode where
  | skip
  | ops (l : List AOpr)
  | drawn (l : List DOpr)
  | drawnP (l : List DOpr)
  | seq (a b : ACode)
  | cond (c : Operand) (a b : ACode)
  | block (id : Nat) (c : ACode)
  | loop (c : ACode)
  | exit (id : Nat)
  | ret
inductive ARes where
  | tmp (t : Nat)
  | cell (t : Nat)
  | cellA (n : Nat) (t : Nat)
structure AFunc where
  ntmps : Nat
  results : List ARes
  body : ACode
inductive OR where
  | ok (v : Value) (H : Hp)
  | call (f : Nat) (args : Array Value)
  | defer (f : Nat) (args : Array Value)
  | recover
  | panic (v : Value)
abbrev Env := Operand → Value
def setL : List Value → Nat → List Value → List Value
  | cs, _, [] => cs
  | cs, o, v :: r => setL (cs.set o v) (o + 1) r
def loadO (H : Hp) : Value → Option Value
  | .pointer (some ⟨b, o, none⟩) => match H.get b with
    | some (.cells cs _ _) => cs[o]?
    | _ => none
  | _ => none
def loadAO (H : Hp) (n : Nat) : Value → Option Value
  | .pointer (some ⟨b, o, none⟩) => match H.get b with
    | some (.cells cs _ _) => if o + n ≤ cs.length then some (.agg ((cs.drop o).take n).toArray) else none
    | _ => none
  | _ => none
def storeO (H : Hp) (n : Nat) (x : Value) : Value → Option Hp
  | .pointer (some ⟨b, o, none⟩) => match H.get b with
    | some (.cells cs u ro) => if x.cells.size = n ∧ ro = false ∧ o + n ≤ cs.length ∧ x.cells.all isCell = true then some (H.put b (.cells (setL cs o x.cells.toList) u ro)) else none
    | _ => none
  | _ => none
def binO : BinOp → Value → Value → Option Value
  | .shl, .int k a, .int _ b => if b < 0 then none else some (.int k (k.wrap (a * 2 ^ (min b.toNat k.bits))))
  | .shr, .int k a, .int _ b => if b < 0 then none else some (.int k (a.fdiv (2 ^ (min b.toNat k.bits))))
  | op, .int k a, .int k' b => if k ≠ k' then none else match op with
    | .add => some (.int k (k.wrap (a + b)))
    | .sub => some (.int k (k.wrap (a - b)))
    | .mul => some (.int k (k.wrap (a * b)))
    | .quo => if b = 0 then none else some (.int k (k.wrap (a.tdiv b)))
    | .rem => if b = 0 then none else some (.int k (a.tmod b))
    | .and => some (.int k (k.wrap (BitVec.ofInt k.bits a &&& BitVec.ofInt k.bits b).toNat))
    | .or => some (.int k (k.wrap (BitVec.ofInt k.bits a ||| BitVec.ofInt k.bits b).toNat))
    | .xor => some (.int k (k.wrap (BitVec.ofInt k.bits a ^^^ BitVec.ofInt k.bits b).toNat))
    | .andNot => some (.int k (k.wrap (BitVec.ofInt k.bits a &&& ~~~(BitVec.ofInt k.bits b)).toNat))
    | .eql => some (.bool (a == b))
    | .neq => some (.bool (a != b))
    | .lss => some (.bool (decide (a < b)))
    | .leq => some (.bool (decide (a ≤ b)))
    | .gtr => some (.bool (decide (a > b)))
    | .geq => some (.bool (decide (a ≥ b)))
    | _ => none
  | op, .string a, .string b => match op with
    | .add => if ((a.size + b.size : Nat) : Int) > IntKind.i64.max then none else some (.string (a ++ b))
    | .eql => some (.bool (a.toList == b.toList))
    | .neq => some (.bool !(a.toList == b.toList))
    | .lss => some (.bool (Op.bytesLess a.toList b.toList))
    | .leq => some (.bool (Op.bytesLess a.toList b.toList || a.toList == b.toList))
    | .gtr => some (.bool !(Op.bytesLess a.toList b.toList || a.toList == b.toList))
    | .geq => some (.bool !(Op.bytesLess a.toList b.toList))
    | _ => none
  | _, _, _ => none
def eqO : Nat → Value → Value → Option Bool
  | 0, .bool a, .bool b => some (a == b)
  | 1, .pointer none, .pointer b => some b.isNone
  | 1, .pointer _, .pointer none => some false
  | 5, .nilIface, .iface _ _ => some false
  | 5, .iface _ _, .nilIface => some false
  | 5, .nilIface, .nilIface => some true
  | 2, .slice none _ _, .slice none _ _ => some true
  | 2, .slice none _ _, .slice (some ⟨_, _, sp⟩) _ _ => if sp = some 2 then none else some false
  | 2, .slice (some ⟨_, _, sp⟩) _ _, .slice none _ _ => if sp = some 2 then none else some false
  | 3, .map none, .map b => some b.isNone
  | 3, .map _, .map none => some false
  | 4, .nilFunc, .nilFunc => some true
  | 4, .nilFunc, .func _ _ _ => some false
  | 4, .func _ _ _, .nilFunc => some false
  | _, _, _ => none
def unO : UnOp → Value → Option Value
  | .neg, .int k n => some (.int k (k.wrap (0 - n)))
  | .xor, .int k n => some (.int k (k.wrap (BitVec.ofInt k.bits (if k.signed then -1 else k.max) ^^^ BitVec.ofInt k.bits n).toNat))
  | .not, .bool b => some (.bool !b)
  | _, _ => none
def sliceCells (H : Hp) (size : Nat) : Value → Option (List Value)
  | .slice none 0 0 => some []
  | .slice (some ⟨b, o, _⟩) n _ => if n = 0 then some [] else match H.get b with
    | some (.cells cs _ _) => if o + n * size ≤ cs.length then some ((cs.drop o).take (n * size)) else none
    | _ => none
  | .string s => if size = 1 then some (s.data.toList.map fun b => .int .u8 b.toNat) else none
  | _ => none
def intsO (l : List Value) : Option (List Int) := l.mapM fun v => match v with
  | .int .u8 n => some n
  | _ => none
def boundO (lo hi : Nat) : Value → Option Nat
  | .int _ i => if (lo : Int) ≤ i ∧ i ≤ hi then some i.toNat else none
  | _ => none
def optBound (hi d : Nat) : Option Value → Option Nat
  | some v => boundO 0 hi v
  | none => some d
def boundsO (len cap : Nat) (lo hi mx : Option Value) : Option (Nat × Nat × Nat) :=
  (optBound cap cap mx).bind fun m => (if hi.isNone && mx.isSome then none else optBound m len hi).bind fun h => (optBound h 0 lo).bind fun l => some (l, h, m)
def lenO (v : Value) : Option Nat := match v with
  | .slice _ n _ => some n
  | .string s => some s.size
  | _ => none
def killO (H : Hp) (ty size : Nat) : Option Addr → Option Hp
  | none => some H
  | some ⟨b, _, sp⟩ => match H.get b with
    | some (.cells _ u ro) => if sp = some 2 then none else if sp = some 1 then some H else if u.u = 0 then some H else if ro = true then none else if u.u = size ∧ u.ty = ty then some (H.put b .dead) else none
    | _ => none
def zO (H : Hp) : Option Addr → Bool
  | none => true
  | some ⟨b, o, _⟩ => match H.get b with
    | some (.cells _ u _) => u.z && o == 0
    | _ => false
def appendO (H : Hp) (ty size bytes : Nat) (s x : Value) : Option (Value × Hp) := do
  let .slice base n k := s | none
  let m ← lenO x
  let new ← sliceCells H size x
  if n + m ≤ k then
    match base with
    | none => some (.slice none 0 0, H)
    | some ⟨b, o, sp⟩ => match H.get b with
      | some (.cells cs u ro) =>
        if sp = some 2 then none else if m = 0 then some (s, H)
        else if ro = false ∧ o + n * size + m * size ≤ cs.length ∧ new.all isCell = true then some (.slice (some ⟨b, o, sp⟩) (n + m) k, H.put b (.cells (setL cs (o + n * size) new) u ro)) else none
      | _ => none
  else if (n + m) * bytes > 35184372088832 ∨ (n + m) * 8 > 35184372088832 ∨ size = 0 ∨ new.all isCell = false then none
  else
    let old ← sliceCells H size s
    let H1 ← killO H ty size base
    some (.slice (some ⟨H.size, 0, none⟩) (n + m) (n + m), H1.new (.cells (old ++ new) ⟨size, ty, zO H base⟩ false))
def bCells (zero : Array Value) (n : Nat) : Array Value := (Array.range n).map (zero[· % zero.size]!)
def strB (s : ByteArray) : List Value := s.data.toList.map fun b => .int .u8 b.toNat
def sliceO (H : Hp) (size : Nat) (x : Value) (lo hi mx : Option Value) : Option Value := do
  match x with
  | .slice none 0 0 =>
    let _ ← boundsO 0 0 lo hi mx
    some (.slice none 0 0)
  | .slice (some ⟨b, o, sp⟩) n k =>
    let (l, h, m) ← boundsO n k lo hi mx
    if sp = some 2 then (if mx.isSome || n == 0 then none else some (.slice (some ⟨b, o + l * size, some 2⟩) (h - l) (h - l))) else
    match H.get b with
    | some (.cells _ u _) => if u.u = 0 ∨ u.u = size then some (.slice (some ⟨b, o + l * size, if mx.isSome then some 1 else sp⟩) (h - l) (m - l)) else none
    | _ => none
  | _ => none
def sameK : Value → Value → Bool
  | .int _ a, .int _ b => a == b
  | .string a, .string b => a == b
  | .bool a, .bool b => a == b
  | _, _ => false
def keyO : Value → Bool
  | .int _ _ | .string _ | .bool _ => true
  | _ => false
def keyIs : Nat → Value → Bool
  | 0, .int _ _ => true
  | 1, .string _ => true
  | 2, .bool _ => true
  | _, _ => false
def fits : Value → Value → Bool
  | .int j _, .int k _ => j == k
  | .string _, .string _ => true
  | .bool _, .bool _ => true
  | _, _ => false
def fitsAll (kd : Nat) (k : Value) (es : List MapEntry) : Bool := keyIs kd k && es.all fun e => fits k e.key
def mx2 : Value → Value → Option Value
  | .int k p, .int _ q => some (.int k (if q > p then q else p))
  | _, _ => none
def mn2 : Value → Value → Option Value
  | .int k p, .int _ q => some (.int k (if q < p then q else p))
  | _, _ => none
def eqV : Nat → Value → Value → Bool
  | _, .bool a, .bool b => a == b
  | _, .int j a, .int k b => j == k && a == b
  | _, .string a, .string b => a.data.toList == b.data.toList
  | _, .pointer a, .pointer b => a == b
  | _, .slice a n k, .slice b m l => a == b && n == m && k == l
  | _, .map a, .map b => a == b
  | _, .nilFunc, .nilFunc => true
  | _, .nilIface, .nilIface => true
  | f + 1, .agg a, .agg b => a.toList.length == b.toList.length && (a.toList.zip b.toList).all fun (x, y) => eqV f x y
  | f + 1, .tuple a, .tuple b => a.toList.length == b.toList.length && (a.toList.zip b.toList).all fun (x, y) => eqV f x y
  | f + 1, .func (.func p) a b, .func (.func q) c d => p == q && (a.toList.length == c.toList.length && (a.toList.zip c.toList).all fun (x, y) => eqV f x y) && (b.toList.length == d.toList.length && (b.toList.zip d.toList).all fun (x, y) => eqV f x y)
  | _, _, _ => false
def sameCs (a b : List Value) : Bool := a.length == b.length && (a.zip b).all fun (x, y) => eqV 3 x y
def heldAt (H : Hp) (b ty : Nat) (l : List Value) : Bool := match H.get b with
  | some (.cells cs u ro) => sameCs cs l && u.u == 0 && u.ty == ty && u.z && !ro
  | _ => false
def evOp (ρ : Env) (H : Hp) : AOp → Option OR
  | .mv x => some (.ok (ρ x) H)
  | .pick c a b => match ρ c with
    | .bool t => some (.ok (if t then ρ a else ρ b) H)
    | _ => none
  | .new ty zero => some (.ok (.pointer (some ⟨H.size, 0, none⟩)) (H.new (.cells zero ⟨0, ty, true⟩ false)))
  | .box ty x => some (.ok (.pointer (some ⟨H.size, 0, none⟩)) (H.new (.cells (ρ x).cells.toList ⟨0, ty, true⟩ false)))
  | .build zero places parts => (Instr.fill (places[·]?) zero (parts.map fun (i, x) => (i, ρ x)).toList).map fun cs => .ok (.agg cs) H
  | .buildA zero size parts => (Instr.fill (fun i => some (i * size, size)) zero (parts.map fun (i, x) => (i, ρ x)).toList).map fun cs => .ok (.agg cs) H
  | .bslice ty zero size len parts => (Instr.fill (fun i => some (i * size, size)) (bCells zero (len * size)) (parts.map fun (i, x) => (i, ρ x)).toList).map fun cs =>
      .ok (.slice (some ⟨H.size, 0, none⟩) len len) (H.new (.cells cs.toList ⟨0, ty, true⟩ false))
  | .load a => (loadO H (ρ a)).map (.ok · H)
  | .loadA n a => (loadAO H n (ρ a)).map (.ok · H)
  | .store n a x => (storeO H n (ρ x) (ρ a)).map (.ok undef ·)
  | .nilchk x => match ρ x with
    | .pointer none | .nilIface | .nilFunc => none
    | .func (.func f) a b => some (.ok (.func (.func f) a b) H)
    | .pointer (some a) => some (.ok (.pointer (some a)) H)
    | _ => none
  | .bin op x y => (binO op (ρ x) (ρ y)).map (.ok · H)
  | .eq kind neg x y => (eqO kind (ρ x) (ρ y)).map fun b => .ok (.bool (if neg then !b else b)) H
  | .un op x => (unO op (ρ x)).map (.ok · H)
  | .convI k x => match ρ x with
    | .int _ n => some (.ok (.int k (k.wrap n)) H)
    | _ => none
  | .convBS x => match ρ x with
    | .slice b n k => ((sliceCells H 1 (.slice b n k)).bind intsO).map fun l => .ok (.string (strOfNums l)) H
    | _ => none
  | .convS x => match ρ x with
    | .string s => some (.ok (.string s) H)
    | _ => none
  | .convSB ty x => match ρ x with
    | .string s => some (.ok (.slice (some ⟨H.size, 0, none⟩) s.size s.size) (H.new (.cells (strB s) ⟨1, ty, false⟩ false)))
    | _ => none
  | .iface t x => some (.ok (.iface t (ρ x)) H)
  | .func fn a b => some (.ok (.func fn (a.map ρ) (b.map ρ)) H)
  | .mkmap => some (.ok (.map (some H.size)) (H.new (.map [] 0)))
  | .mkslice ty zero size bytes len cap => match ρ len, ρ cap with
    | .int .i64 l, .int .i64 c => if 0 ≤ l ∧ l ≤ c ∧ c * bytes ≤ 140737488355328 ∧ c ≤ 140737488355328 then
        some (.ok (.slice (some ⟨H.size, 0, none⟩) l.toNat c.toNat) (H.new (.cells (bCells zero (c.toNat * size)).toList ⟨0, ty, true⟩ false))) else none
    | _, _ => none
  | .slc size x lo hi mx => (sliceO H size (ρ x) (lo.map ρ) (hi.map ρ) (mx.map ρ)).map (.ok · H)
  | .slcS x lo hi => match ρ x with
    | .string s => (boundsO s.size s.size (lo.map ρ) (hi.map ρ) none).map fun (l, h, _) => .ok (.string (s.extract l h)) H
    | _ => none
  | .slcA n size x lo hi mx => match ρ x with
    | .pointer (some ⟨b, o, none⟩) => match H.get b with
      | some (.cells _ ⟨0, _, _⟩ _) => (boundsO n n (lo.map ρ) (hi.map ρ) (mx.map ρ)).map fun (l, h, m) => .ok (.slice (some ⟨b, o + l * size, none⟩) (h - l) (m - l)) H
      | _ => none
    | _ => none
  | .off x k => match ρ x with
    | .pointer (some ⟨b, o, none⟩) => some (.ok (.pointer (some ⟨b, o + k, none⟩)) H)
    | _ => none
  | .fld agg o n x => match ρ x with
    | .agg cs => if agg then (if o + n ≤ cs.size then some (.ok (.agg (cs.extract o (o + n))) H) else none) else (cs[o]?).map (.ok · H)
    | _ => none
  | .ixS size x i => match ρ x, ρ i with
    | .slice (some ⟨b, o, _⟩) n _, .int _ j => if 0 ≤ j ∧ j < n then some (.ok (.pointer (some ⟨b, o + j.toNat * size, none⟩)) H) else none
    | _, _ => none
  | .ixA n size x i => match ρ x, ρ i with
    | .pointer (some ⟨b, o, none⟩), .int _ j => if 0 ≤ j ∧ j < n then some (.ok (.pointer (some ⟨b, o + j.toNat * size, none⟩)) H) else none
    | _, _ => none
  | .ixStr x i => match ρ x, ρ i with
    | .string s, .int _ j => if 0 ≤ j then (s[j.toNat]?).map fun b => .ok (.int .u8 b.toNat) H else none
    | _, _ => none
  | .ixAgg agg n size x i => match ρ x, ρ i with
    | .agg cs, .int _ j => if 0 ≤ j ∧ j < n then
        (if agg then (if j.toNat * size + size ≤ cs.size then some (.ok (.agg (cs.extract (j.toNat * size) (j.toNat * size + size))) H) else none) else (cs[j.toNat * size]?).map (.ok · H)) else none
    | _, _ => none
  | .lookup kd zero x i ok => match ρ x with
    | .map none => if keyIs kd (ρ i) then some (.ok (if ok then .tuple #[zero, .bool false] else zero) H) else none
    | .map (some r) => match H.get r with
      | some (.map es _) => if fitsAll kd (ρ i) es then
          (match es.find? fun e => sameK (ρ i) e.key with
          | some e => some (.ok (if ok then .tuple #[e.val, .bool true] else e.val) H)
          | none => some (.ok (if ok then .tuple #[zero, .bool false] else zero) H)) else none
      | _ => none
    | _ => none
  | .mapUpd kd m k x => match ρ m with
    | .map (some r) => match H.get r with
      | some (.map es c) => if fitsAll kd (ρ k) es then
          (match es.findIdx? fun e => sameK (ρ k) e.key with
          | some i => some (.ok undef (H.put r (.map (es.modify i fun e => { e with key := ρ k, val := ρ x }) c)))
          | none => some (.ok undef (H.put r (.map (es ++ [{ key := ρ k, val := ρ x, born := c }]) (c + 1))))) else none
      | _ => none
    | _ => none
  | .rangeS x => match ρ x with
    | .string s => some (.ok (.pointer (some ⟨H.size, 0, none⟩)) (H.new (.iter s 0)))
    | _ => none
  | .nextS x => match ρ x with
    | .pointer (some ⟨r, 0, none⟩) => match H.get r with
      | some (.iter s pos) => if pos < s.size then some (.ok (.tuple #[.bool true, .int .i64 pos, .int .i32 (Utf8.decode s pos).1]) (H.put r (.iter s (pos + (Utf8.decode s pos).2))))
        else some (.ok (.tuple #[.bool false]) H)
      | _ => none
    | _ => none
  | .assert t zero x ok => match ρ x with
    | .iface u v => if u = t then some (.ok (if ok then .tuple #[v, .bool true] else v) H) else if ok then some (.ok (.tuple #[zero, .bool false]) H) else none
    | .nilIface => if ok then some (.ok (.tuple #[zero, .bool false]) H) else none
    | _ => none
  | .extract x i => match ρ x with
    | .tuple vs => (vs[i]?).map (.ok · H)
    | _ => none
  | .call f args => match ρ f with
    | .func (.func g) first captured => some (.call g (first ++ args.map ρ ++ captured))
    | _ => none
  | .lenS x => match ρ x with
    | .string s => some (.ok (.int .i64 s.size) H)
    | _ => none
  | .lenL x => match ρ x with
    | .slice _ n _ => some (.ok (.int .i64 n) H)
    | _ => none
  | .lenM x => match ρ x with
    | .map none => some (.ok (.int .i64 0) H)
    | .map (some r) => match H.get r with
      | some (.map es _) => some (.ok (.int .i64 es.length) H)
      | _ => none
    | _ => none
  | .lenC n => some (.ok (.int .i64 n) H)
  | .append ty size bytes s x => (appendO H ty size bytes (ρ s) (ρ x)).map fun (v, H) => .ok v H
  | .copy size d s => match ρ d with
    | .slice base dn _ => do
      let m ← lenO (ρ s)
      let cs ← sliceCells H size (ρ s)
      let new := cs.take (min m dn * size)
      match base with
      | none => some (.ok (.int .i64 (min m dn : Nat)) H)
      | some ⟨b, o, sp⟩ => match H.get b with
        | some (.cells ds u ro) => if sp = some 2 then none else if min m dn = 0 then some (.ok (.int .i64 0) H) else if ro = false ∧ o + min m dn * size ≤ ds.length ∧ new.all isCell = true then some (.ok (.int .i64 (min m dn : Nat)) (H.put b (.cells (setL ds o new) u ro))) else none
        | _ => none
    | _ => none
  | .mx x y => (mx2 (ρ x) (ρ y)).map (.ok · H)
  | .mn x y => (mn2 (ρ x) (ρ y)).map (.ok · H)
  | .delete kd m k => match ρ m with
    | .map none => if keyIs kd (ρ k) then some (.ok (.tuple #[]) H) else none
    | .map (some r) => match H.get r with
      | some (.map es c) => if fitsAll kd (ρ k) es then
          (match es.findIdx? fun e => sameK (ρ k) e.key with
          | some i => some (.ok (.tuple #[]) (H.put r (.map (es.eraseIdx i) c)))
          | none => some (.ok (.tuple #[]) (H.put r (.map es c)))) else none
      | _ => none
    | _ => none
  | .defer f args => match ρ f with
    | .func (.func g) first captured => some (.defer g (first ++ args.map ρ ++ captured))
    | _ => none
  | .recover => some .recover
  | .panic x => match ρ x with
    | .iface t v => some (.panic (.iface t v))
    | _ => none
  | .claimN b ty zero => if heldAt H b ty zero then some (.ok (.pointer (some ⟨b, 0, none⟩)) H) else none
  | .claimB b ty x => if heldAt H b ty (ρ x).cells.toList then some (.ok (.pointer (some ⟨b, 0, none⟩)) H) else none
  | .claimS b ty zero size len parts => match Instr.fill (fun i => some (i * size, size)) (bCells zero (len * size)) (parts.map fun (i, x) => (i, ρ x)).toList with
    | some cs => if heldAt H b ty cs.toList then some (.ok (.slice (some ⟨b, 0, none⟩) len len) H) else none
    | none => none
  | .claimM b ty zero size bytes len cap => match ρ len, ρ cap with
    | .int .i64 l, .int .i64 c => if 0 ≤ l ∧ l ≤ c ∧ c * bytes ≤ 140737488355328 ∧ c ≤ 140737488355328 then
        (if heldAt H b ty (bCells zero (c.toNat * size)).toList then some (.ok (.slice (some ⟨b, 0, none⟩) l.toNat c.toNat) H) else none) else none
    | _, _ => none
def claimOf (b : Nat) : AOp → Option AOp
  | .new ty z => some (.claimN b ty z)
  | .box ty x => some (.claimB b ty x)
  | .bslice ty z size len parts => some (.claimS b ty z size len parts)
  | .mkslice ty z size bytes len cap => some (.claimM b ty z size bytes len cap)
  | _ => none
def claimB : AOp → Option Nat
  | .claimN b _ _ | .claimB b _ _ | .claimS b _ _ _ _ _ | .claimM b _ _ _ _ _ _ => some b
  | _ => none
inductive CR where
  | ret (v : Value) (H : Hp)
  | pan (v : Value) (H : Hp)
inductive AExit where
  | normal
  | exit (id : Nat)
  | ret
  | pan (v : Value)
structure St where
  t : Tr Value
  H : Hp
  ds : List (Nat × Array Value)
  df : Bool
  pm : Option (Value × Bool)
def St.get (s : St) (i : Nat) : Value := (s.t.get i).getD undef
def St.getO (s : St) : Option Nat → Value
  | some d => s.get d
  | none => undef
def St.env (s : St) : Env
  | .tmp i => s.get i
  | .const v => v
  | .global g => .pointer (some ⟨g, 0, none⟩)
  | .func f => .func (.func f) #[] #[]
def St.put (s : St) (d : Option Nat) (v : Value) : St := match d with
  | some d => { s with t := s.t.set d v }
  | none => s
def wantedO (s : St) (g : Option (Option Nat × Bool)) : Bool := match g with
  | none => true
  | some (some j, want) => match s.get j with
    | .bool b => b == want
    | _ => false
  | some (none, _) => false
abbrev Caller := Nat → Array Value → Hp → Option CR
def evOpr (call : Caller) (o : AOpr) (s : St) : Option (AExit × St) :=
  if wantedO s o.guard then
    match evOp s.env s.H o.op with
    | some (.ok v H) => some (.normal, { s with H }.put o.dst v)
    | some (.call f args) => match call f args s.H with
      | some (.ret v H) => some (.normal, { s with H }.put o.dst v)
      | some (.pan v H) => some (.pan v, { s with H })
      | none => none
    | some (.defer f args) => if s.df then none else some (.normal, { s with ds := (f, args) :: s.ds }.put o.dst undef)
    | some .recover => if s.df then match s.pm with
        | some (v, false) => some (.normal, { s with pm := some (v, true) }.put o.dst v)
        | _ => some (.normal, s.put o.dst .nilIface)
      else none
    | some (.panic v) => some (.pan v, s)
    | none => none
  else some (.normal, s.put o.dst undef)
def evOps (call : Caller) : List AOpr → St → Option (AExit × St)
  | [], s => some (.normal, s)
  | o :: r, s => match evOpr call o s with
    | some (.normal, s1) => evOps call r s1
    | e => e
def bad : Value := .chan none
def hfree : AOp → Bool
  | .mv _ | .pick _ _ _ | .build _ _ _ | .buildA _ _ _ | .nilchk _ | .bin _ _ _ | .eq _ _ _ _ | .un _ _ | .convI _ _ | .convS _ | .iface _ _ | .func _ _ _ | .slcS _ _ _ | .off _ _ | .fld _ _ _ _ | .ixS _ _ _ | .ixA _ _ _ _ | .ixStr _ _
  | .ixAgg _ _ _ _ _ | .assert _ _ _ _ | .extract _ _ | .lenS _ | .lenL _ | .lenC _ | .mx _ _ | .mn _ _ => true
  | _ => false
def reads : AOp → Bool
  | .load _ | .loadA _ _ | .convBS _ | .slc _ _ _ _ _ | .slcA _ _ _ _ _ _ |   .lookup _ _ _ _ _ | .lenM _ | .claimN _ _ _ | .claimB _ _ _ | .claimS _ _ _ _ _ _ | .claimM _ _ _ _ _ _ _ => true
  | o => hfree o
structure Rec where
  s : St
  v : Value
structure DSt where
  s : St
  Gs : List Hp
  rs : List (Option Rec)
  pan : Option (Nat × Value)
def stepD (call : Caller) (i : Nat) (d : DOpr) (x : DSt) : Option DSt :=
  match x.pan with
  | some (p, v) => if d.B.contains p then some { x with rs := none :: x.rs } else if d.chain then none else
      (match evOpr call d.o x.s with
      | some (.normal, s1) => some { x with s := s1, rs := some ⟨x.s, s1.getO d.o.dst⟩ :: x.rs }
      | _ => none)
  | none =>
    match evOpr call d.o x.s with
    | some (.normal, s1) => some { s := s1, Gs := if d.chain then s1.H :: x.Gs else x.Gs, rs := some ⟨x.s, s1.getO d.o.dst⟩ :: x.rs, pan := none }
    | some (.pan v, s1) => if d.chain then some { s := s1, Gs := s1.H :: x.Gs, rs := none :: x.rs, pan := some (i, v) } else none
    | _ => none
def runD (call : Caller) : Nat → List DOpr → DSt → Option DSt
  | _, [], x => some x
  | i, d :: r, x => match stepD call i d x with
    | some x1 => runD call (i + 1) r x1
    | none => none
def cIdx (l : List DOpr) : Nat → Nat
  | 0 => 0
  | j + 1 => cIdx l j + if (l[j]?).any (·.chain) then 1 else 0
def stageOK (l : List DOpr) (i : Nat) (B : NS) (m : Nat) : Bool :=
  (List.range l.length).all fun q => match l[q]? with
    | some e => !e.chain || ((!B.contains q || decide (cIdx l q < m)) && (!e.B.contains i || !decide (cIdx l q < m)))
    | none => true
def okAt (d : DOpr) (r : Rec) (G : Hp) : Bool :=
  if wantedO r.s d.o.guard then match evOp r.s.env G d.o.op with
    | some (.ok v _) => eqV 3 v r.v
    | _ => false
  else true
def checkD (l : List DOpr) (rs : List (Option Rec)) (Gs : List Hp) : Bool :=
  (List.range l.length).all fun i => match l[i]?, rs[i]? with
    | some d, some (some r) => d.chain || hfree d.o.op || (List.range Gs.length).all fun m =>
        !stageOK l i d.B m || (match Gs[m]? with
          | some G => okAt d r G
          | none => true)
    | _, _ => true
def poison (l : List DOpr) (s : St) : St := l.foldl (fun s d => s.put d.o.dst bad) s
theorem blt_eq (a b : Nat) : Nat.blt a b = decide (a < b) := by rw [Bool.eq_iff_iff, Nat.blt_eq]; simp
def chainsOf : List DOpr → Nat → Nat → List (Nat × Nat × NS)
  | [], _, _ => []
  | d :: r, p, c => if d.chain then (p, c, d.B) :: chainsOf r (p + 1) (c + 1) else chainsOf r (p + 1) c
def stageF (cs : List (Nat × Nat × NS)) (i : Nat) (B : NS) (m : Nat) : Bool := cs.all fun x => (!B.contains x.1 || Nat.blt x.2.1 m) && (!x.2.2.contains i || !Nat.blt x.2.1 m)
def checkG (cs : List (Nat × Nat × NS)) (i : Nat) (B : NS) (d : DOpr) (r : Rec) : Nat → List Hp → Bool
  | _, [] => true
  | m, G :: Gs => (!stageF cs i B m || okAt d r G) && checkG cs i B d r (m + 1) Gs
def checkH (cs : List (Nat × Nat × NS)) (Gs : List Hp) : Nat → List DOpr → List (Option Rec) → Bool
  | i, d :: l, r :: rs => (match r with
    | some r => d.chain || hfree d.o.op || checkG cs i d.B d r 0 Gs
    | none => true) && checkH cs Gs (i + 1) l rs
  | _, _, _ => true
def checkF (l : List DOpr) (rs : List (Option Rec)) (Gs : List Hp) : Bool := checkH (chainsOf l 0 0) Gs 0 l rs
theorem chainsOf_all (f : Nat × Nat × NS → Bool) (l : List DOpr) : ∀ (r : List DOpr) (p : Nat), l.drop p = r → ((chainsOf r p (cIdx l p)).all f = true ↔ ∀ q d, p ≤ q → l[q]? = some d → d.chain = true → f (q, cIdx l q, d.B) = true) := by
  intro r
  induction r with
  | nil =>
    intro p hp
    simp only [chainsOf, List.all_nil, true_iff]
    intro q d hq hd
    have := (List.getElem?_eq_some_iff.1 hd).1
    have h2 := congrArg List.length hp
    simp at h2
    omega
  | cons d r ih =>
    intro p hp
    have hd : l[p]? = some d := by
      have := congrArg (fun x => x[0]?) hp
      simpa using this
    have hr : l.drop (p + 1) = r := by
      have := congrArg List.tail hp
      simpa using this
    have hc : cIdx l (p + 1) = cIdx l p + if d.chain then 1 else 0 := by simp [cIdx, hd]
    have ih := ih (p + 1) hr
    rw [hc] at ih
    have key : ((∀ q d', p ≤ q → l[q]? = some d' → d'.chain = true → f (q, cIdx l q, d'.B) = true) ↔ (d.chain = true → f (p, cIdx l p, d.B) = true) ∧ ∀ q d', p + 1 ≤ q → l[q]? = some d' → d'.chain = true → f (q, cIdx l q, d'.B) = true) := by
      constructor
      · intro h
        exact ⟨fun hc => h p d (Nat.le_refl _) hd hc, fun q d' hq => h q d' (by omega)⟩
      · rintro ⟨h1, h2⟩ q d' hq hd' hc'
        by_cases e : q = p
        · subst e
          rw [hd] at hd'; cases hd'
          exact h1 hc'
        · exact h2 q d' (by omega) hd' hc'
    rw [key]
    unfold chainsOf
    cases hch : d.chain with
    | true =>
      rw [hch] at ih
      simp only [if_true] at ih ⊢
      rw [List.all_cons, Bool.and_eq_true, ih]
      simp
    | false =>
      rw [hch] at ih
      simp only [Bool.false_eq_true, if_false, Nat.add_zero] at ih ⊢
      rw [ih]
      simp
theorem stageF_eq (l : List DOpr) (i : Nat) (B : NS) (m : Nat) : stageF (chainsOf l 0 0) i B m = stageOK l i B m := by
  rw [Bool.eq_iff_iff]
  have h := chainsOf_all (fun x => (!B.contains x.1 || Nat.blt x.2.1 m) && (!x.2.2.contains i || !Nat.blt x.2.1 m)) l l 0 rfl
  unfold stageF
  rw [show cIdx l 0 = 0 from rfl] at h
  rw [h]
  unfold stageOK
  rw [List.all_eq_true]
  constructor
  · intro h q hq
    rw [List.mem_range] at hq
    have hd : l[q]? = some l[q] := List.getElem?_eq_getElem hq
    rw [hd]
    simp only
    cases hc : (l[q]).chain with
    | false => rfl
    | true =>
      have := h q _ (Nat.zero_le _) hd hc
      simp only [blt_eq] at this
      exact this
  · intro h q d _ hd hc
    have := h q (List.mem_range.2 (List.getElem?_eq_some_iff.1 hd).1)
    rw [hd] at this
    simp only [hc, Bool.not_true, Bool.false_or] at this
    simp only [blt_eq]
    exact this
theorem checkG_iff (l : List DOpr) (i : Nat) (d : DOpr) (r : Rec) : ∀ (Gs : List Hp) (m : Nat), checkG (chainsOf l 0 0) i d.B d r m Gs = true ↔ ∀ j G, Gs[j]? = some G → stageOK l i d.B (m + j) = true → okAt d r G = true := by
  intro Gs
  induction Gs with
  | nil => intro m; simp [checkG]
  | cons G Gs ih =>
    intro m
    unfold checkG
    rw [Bool.and_eq_true, ih (m + 1), stageF_eq, Bool.or_eq_true, Bool.not_eq_true']
    constructor
    · rintro ⟨h1, h2⟩ j G' hG hs
      cases j with
      | zero =>
        simp at hG; subst hG
        rcases h1 with h1 | h1
        · rw [Nat.add_zero] at hs; rw [hs] at h1; cases h1
        · exact h1
      | succ j => exact h2 j G' (by simpa using hG) (by rw [show m + 1 + j = m + (j + 1) by omega]; exact hs)
    · intro h
      refine ⟨?_, fun j G' hG hs => h (j + 1) G' (by simpa using hG) (by rw [show m + (j + 1) = m + 1 + j by omega]; exact hs)⟩
      cases hs : stageOK l i d.B m with
      | false => exact .inl rfl
      | true => exact .inr (h 0 G rfl hs)
theorem checkH_iff (l0 : List DOpr) (Gs : List Hp) : ∀ (l : List DOpr) (rs : List (Option Rec)) (i : Nat), checkH (chainsOf l0 0 0) Gs i l rs = true ↔ ∀ k d r, l[k]? = some d → rs[k]? = some (some r) → d.chain = true ∨ hfree d.o.op = true ∨ ∀ j G, Gs[j]? = some G → stageOK l0 (i + k) d.B j = true → okAt d r G = true := by
  intro l
  induction l with
  | nil => intro rs i; simp [checkH]
  | cons d l ih =>
    intro rs i
    cases rs with
    | nil => simp [checkH]
    | cons r rs =>
      unfold checkH
      rw [Bool.and_eq_true, ih rs (i + 1)]
      constructor
      · rintro ⟨h1, h2⟩ k d' r' hd hr
        cases k with
        | zero =>
          simp at hd hr; subst hd; subst hr
          simp only [Bool.or_eq_true] at h1
          rcases h1 with (h1 | h1) | h1
          · exact .inl h1
          · exact .inr (.inl h1)
          · have := (checkG_iff l0 i d r' Gs 0).1 h1
            exact .inr (.inr fun j G hG hs => this j G hG (by rw [Nat.zero_add]; exact hs))
        | succ k =>
          have := h2 k d' r' (by simpa using hd) (by simpa using hr)
          rw [show i + 1 + k = i + (k + 1) by omega] at this
          exact this
      · intro h
        refine ⟨?_, fun k d' r' hd hr => ?_⟩
        · cases r with
          | none => rfl
          | some r =>
            simp only [Bool.or_eq_true]
            rcases h 0 d r rfl rfl with h1 | h1 | h1
            · exact .inl (.inl h1)
            · exact .inl (.inr h1)
            · exact .inr ((checkG_iff l0 i d r Gs 0).2 fun j G hG hs => h1 j G hG (by rw [Nat.zero_add] at hs; exact hs))
        · have := h (k + 1) d' r' (by simpa using hd) (by simpa using hr)
          rw [show i + (k + 1) = i + 1 + k by omega] at this
          exact this
theorem checkF_D (l : List DOpr) (rs : List (Option Rec)) (Gs : List Hp) : checkF l rs Gs = checkD l rs Gs := by
  rw [Bool.eq_iff_iff]
  unfold checkF
  rw [checkH_iff]
  unfold checkD
  rw [List.all_eq_true]
  constructor
  · intro h i hi
    rw [List.mem_range] at hi
    rw [List.getElem?_eq_getElem hi]
    cases hr : rs[i]? with
    | none => rfl
    | some r =>
      cases r with
      | none => rfl
      | some r =>
        simp only [Bool.or_eq_true, List.all_eq_true, List.mem_range, Bool.not_eq_true']
        rcases h i _ r (List.getElem?_eq_getElem hi) hr with h1 | h1 | h1
        · exact .inl (.inl h1)
        · exact .inl (.inr h1)
        · right
          intro m hm
          rw [List.getElem?_eq_getElem hm]
          cases hs : stageOK l i l[i].B m with
          | false => exact .inl rfl
          | true => exact .inr (h1 m _ (List.getElem?_eq_getElem hm) (by rw [Nat.zero_add]; exact hs))
  · intro h k d r hd hr
    have := h k (List.mem_range.2 (List.getElem?_eq_some_iff.1 hd).1)
    rw [hd, hr] at this
    simp only [Bool.or_eq_true, List.all_eq_true, List.mem_range, Bool.not_eq_true'] at this
    rcases this with (h1 | h1) | h1
    · exact .inl h1
    · exact .inr (.inl h1)
    · refine .inr (.inr fun j G hG hs => ?_)
      have := h1 j (List.getElem?_eq_some_iff.1 hG).1
      rw [Nat.zero_add] at hs
      rw [hs, hG] at this
      simpa using this
def evDrawn (call : Caller) (l : List DOpr) (s : St) : Option (AExit × St) :=
  match runD call 0 l { s, Gs := [s.H], rs := [], pan := none } with
  | none => none
  | some x => if checkF l x.rs.reverse x.Gs.reverse then
      (match x.pan with
      | none => some (.normal, x.s)
      | some (_, v) => some (.pan v, { poison l s with H := x.s.H, ds := x.s.ds, pm := x.s.pm })) else none
def preV (d : DOpr) (s : St) : St := match (if reads d.o.op then evOp s.env s.H d.o.op else none) with
  | some (.ok v _) => s.put d.o.dst v
  | _ => s.put d.o.dst bad
def preD : List DOpr → St → Option (List DOpr × Hp)
  | [], s => some ([], s.H)
  | d :: r, s => if d.chain || reads d.o.op then
      (match preD r (preV d s) with
      | some (l, H) => some (d :: l, H)
      | none => none)
    else (match claimOf s.H.size d.o.op, evOp s.env s.H d.o.op with
      | some c, some (.ok v H1) => (match preD r ({ s with H := H1 }.put d.o.dst v) with
        | some (l, H) => some ({ d with o := { d.o with op := c } } :: l, H)
        | none => none)
      | _, _ => none)
def evC (call : Caller) : Nat → ACode → St → Option (AExit × St)
  | 0, _, _ => none
  | n + 1, c, s => match c with
    | .skip => some (.normal, s)
    | .ops l => evOps call l s
    | .drawn l => evDrawn call l s
    | .drawnP l => (match preD l s with
      | some (l', H) => evDrawn call l' { s with H }
      | none => none)
    | .seq a b => match evC call n a s with
      | some (.normal, s1) => evC call n b s1
      | e => e
    | .cond x a b => match s.env x with
      | .bool true => evC call n a s
      | .bool false => evC call n b s
      | _ => none
    | .block id c => match evC call n c s with
      | some (.exit i, s1) => if i = id then some (.normal, s1) else some (.exit i, s1)
      | e => e
    | .loop c => match evC call n c s with
      | some (.normal, s1) => evC call n (.loop c) s1
      | e => e
    | .exit id => some (.exit id, s)
    | .ret => some (.ret, s)
def evS (call : Caller) : ACode → St → Option (AExit × St)
  | .skip, s => some (.normal, s)
  | .ret, s => some (.ret, s)
  | .ops l, s => evOps call l s
  | .seq a b, s => match evS call a s with
    | some (.normal, s1) => evS call b s1
    | e => e
  | .cond x a b, s => match s.env x with
    | .bool true => evS call a s
    | .bool false => evS call b s
    | _ => none
  | .block id c, s => match evS call c s with
    | some (.exit i, s1) => if i = id then some (.normal, s1) else some (.exit i, s1)
    | e => e
  | .exit id, s => some (.exit id, s)
  | _, _ => none
def resO (s : St) : ARes → Option Value
  | .tmp t => match s.get t with
    | .chan _ => none
    | v => some v
  | .cell t => loadO s.H (s.get t)
  | .cellA n t => loadAO s.H n (s.get t)
def resultsO (s : St) (l : List ARes) : Option Value := (l.mapM (resO s)).map fun vs => match vs with
  | [v] => v
  | vs => .tuple vs.toArray
def enterT : Nat → List Value → Tr Value → Tr Value
  | _, [], t => t
  | i, v :: r, t => enterT (i + 1) r (t.set i v)
def leave (call : Caller) (code : Nat → Option AFunc) (rs : List ARes) : List (Nat × Array Value) → Option Value → St → Option CR
  | [], none, s => (resultsO s rs).map (.ret · s.H)
  | [], some v, s => some (.pan v s.H)
  | (f, args) :: ds, pm, s => match code f with
    | some fn => if fn.ntmps < args.size then none else match evS call fn.body { t := enterT 0 args.toList .nil, H := s.H, ds := [], df := true, pm := pm.map fun v => (v, false) } with
      | some (.normal, s1) | some (.ret, s1) => if s1.ds.isEmpty && fn.results.isEmpty then leave call code rs ds (match s1.pm with
          | some (v, false) => some v
          | _ => none) { s with H := s1.H } else none
      | _ => none
    | none => none
def evCall (x : Caller) (code : Nat → Option AFunc) : Nat → Caller
  | 0, _, _, _ => none
  | n + 1, f, args, H => match x f args H with
    | some r => some r
    | none => match code f with
      | some fn => if fn.ntmps < args.size then none else match evC (evCall x code n) n fn.body { t := enterT 0 args.toList .nil, H, ds := [], df := false, pm := none } with
        | some (.normal, s) | some (.ret, s) => leave (evCall x code n) code fn.results s.ds none s
        | some (.pan v, s) => leave (evCall x code n) code fn.results s.ds (some v) s
        | _ => none
      | none => none
end
end Go.Proofs.YtehbekgmemebjaaDoorEv
