import Derived.Test.YtehbekgmemebjaaDoorEvA
import Derived.Below
import Derived.Laws.Cells
import Derived.Laws.IdiomCopy
import Derived.ChangeKeysEq
namespace Go.Proofs.YtehbekgmemebjaaDoorEv
open Go
set_option linter.unusedVariables false
set_option linter.unusedSimpArgs false
section comp
variable (P : Program) (N : Nat) (GL : List Nat)
def okOpd : Operand → Bool
  | .tmp _ => true
  | .const v => flat 3 v
  | .global g => GL.contains g
  | .func _ => true
def flatCells (cs : Array Value) : Bool := cs.all fun v => flat 3 v && isCell v
def zeroOf (t : TypeId) : Option (Array Value) := match (P.info? t).bind (·.zero) with
  | some z => if (flatCells z.cells && flat 3 z) && (P.info? t).any (fun i => z.cells.size == i.size) then some z.cells else none
  | none => none
def zeroVal (t : TypeId) : Option Value := match (P.info? t).bind (·.zero) with
  | some z => if flat 3 z then some z else none
  | none => none
def sizeQ (t : TypeId) : Option Nat := (P.info? t).map (·.size)
def aggQ (t : TypeId) : Option Bool := match P.underlying t with
  | some (.struct _) | some (.array _ _) => some true
  | some _ => some false
  | none => none
def isConst : Operand → Bool
  | .const _ => true
  | _ => false
def compEq (op : BinOp) (t : TypeId) (x y : Operand) : Option AOp := match P.underlying t with
  | some (.int _) => some (.bin op x y)
  | some .string => some (.bin op x y)
  | some (.interface _) => if isConst x || isConst y then some (.eq 5 (op == .neq) x y) else none
  | some .bool => some (.eq 0 (op == .neq) x y)
  | some (.pointer _) => some (.eq 1 (op == .neq) x y)
  | some (.slice _) => some (.eq 2 (op == .neq) x y)
  | some (.map _ _) => some (.eq 3 (op == .neq) x y)
  | some (.func _ _ _) => some (.eq 4 (op == .neq) x y)
  | _ => none
def keyKind (t : TypeId) : Option Nat := match P.underlying t with
  | some (.int _) => some 0
  | some .string => some 1
  | some .bool => some 2
  | _ => none
def compOp (o : Oper) : Option AOp :=
  match o.op with
  | .move x | .assign x => some (.mv x)
  | .pick c a b => some (.pick c a b)
  | .alloc e => (zeroOf P e).map fun z => .new e z.toList
  | .box t x => some (.box t x)
  | .build t parts => match P.underlying t, zeroOf P t with
    | some (.struct fs), some z => (fs.toList.mapM fun f => (sizeQ P f.type).map fun n => (f.offset, n)).map fun l => .build z l.toArray parts
    | some (.array _ e), some z => (sizeQ P e).map fun n => .buildA z n parts
    | _, _ => none
  | .buildSlice t len parts => match P.underlying t with
    | some (.slice e) => match sizeQ P e, zeroOf P e with
      | some n, some z => if len * n ≤ 16777216 then some (.bslice e z n len parts) else none
      | _, _ => none
    | _ => none
  | .load t a => match aggQ P t, sizeQ P t with
    | some true, some n => some (.loadA n a)
    | some false, some _ => some (.load a)
    | _, _ => none
  | .store t a x => (sizeQ P t).map fun n => .store n a x
  | .nilCheck x => some (.nilchk x)
  | .binOp .eql t x y _ => compEq P .eql t x y
  | .binOp .neq t x y _ => compEq P .neq t x y
  | .binOp op _ x y _ => some (.bin op x y)
  | .unOp op _ x => some (.un op x)
  | .convert s d x => match P.underlying s, P.underlying d with
    | some (.int _), some (.int k) => some (.convI k x)
    | some .string, some .string => some (.convS x)
    | some (.slice e), some .string => match P.underlying e with
      | some (.int .u8) => some (.convBS x)
      | _ => none
    | some .string, some (.slice e) => match P.underlying e with
      | some (.int .u8) => some (.convSB e x)
      | _ => none
    | _, _ => none
  | .makeInterface t x => match P.underlying t with
    | some (.interface _) => none
    | some _ => some (.iface t x)
    | none => none
  | .makeFunc (.func f) a b => some (.func (.func f) a b)
  | .makeMap _ none => some .mkmap
  | .makeSlice t l c => match P.underlying t with
    | some (.slice e) => match P.info? e, zeroOf P e with
      | some i, some z => some (.mkslice e z i.size i.bytes l c)
      | _, _ => none
    | _ => none
  | .slice t x lo hi mx => match P.underlying t with
    | some (.array n e) => (sizeQ P e).bind fun s => if s = 0 then none else some (.slcA n s x lo hi mx)
    | some (.slice e) => (sizeQ P e).bind fun s => if s = 0 then none else some (.slc s x lo hi mx)
    | some .string => if mx.isNone then some (.slcS x lo hi) else none
    | _ => none
  | .fieldAddr t x f => match P.underlying t with
    | some (.struct fs) => match fs[f]? with
      | some fd => match sizeQ P fd.type with
        | some 0 => none
        | some _ => some (.off x fd.offset)
        | none => none
      | none => none
    | _ => none
  | .field t x f => match P.underlying t with
    | some (.struct fs) => match fs[f]? with
      | some fd => match aggQ P fd.type, sizeQ P fd.type with
        | some b, some n => some (.fld b fd.offset n x)
        | _, _ => none
      | none => none
    | _ => none
  | .indexAddr t x i => match P.underlying t with
    | some (.array n e) => (sizeQ P e).map fun s => .ixA n s x i
    | some (.slice e) => (sizeQ P e).map fun s => .ixS s x i
    | _ => none
  | .index t x i => match P.underlying t with
    | some (.array n e) => match aggQ P e, sizeQ P e with
      | some b, some s => some (.ixAgg b n s x i)
      | _, _ => none
    | some .string => some (.ixStr x i)
    | _ => none
  | .lookup t x i ok => match P.underlying t with
    | some (.map k e) => match keyKind P k, zeroVal P e with
      | some kd, some z => some (.lookup kd z x i ok)
      | _, _ => none
    | _ => none
  | .mapUpdate t m k x | .insert t m k x => match P.underlying t with
    | some (.map kt _) => (keyKind P kt).map fun kd => .mapUpd kd m k x
    | _ => none
  | .range t x => match P.underlying t with
    | some .string => some (.rangeS x)
    | _ => none
  | .next it true => some (.nextS it)
  | .typeAssert x _ t ok => match P.underlying t with
    | some (.interface _) => none
    | some _ => (zeroVal P t).map fun z => .assert t z x ok
    | none => none
  | .extract x i => some (.extract x i)
  | .call { callee := .value f, args, .. } => some (.call f args)
  | .call { callee := .builtin b, args, argTypes } => match b with
    | .len => match args[0]?, (argTypes[0]?).bind P.underlying with
      | some x, some .string => some (.lenS x)
      | some x, some (.slice _) => some (.lenL x)
      | some x, some (.map _ _) => some (.lenM x)
      | some _, some (.array n _) => some (.lenC n)
      | some _, some (.pointer e) => match P.underlying e with
        | some (.array n _) => some (.lenC n)
        | _ => none
      | _, _ => none
    | .append => match args[0]?, args[1]?, (argTypes[0]?).bind P.underlying, (argTypes[1]?).bind P.underlying with
      | some s, some x, some (.slice e), some xt => match P.info? e, xt, zeroOf P e with
        | some _, .int _, _ => none
        | some i, _, some _ => some (.append e i.size i.bytes s x)
        | _, _, _ => none
      | _, _, _, _ => none
    | .copy => match args[0]?, args[1]?, (argTypes[0]?).bind P.underlying with
      | some d, some s, some (.slice e) => (sizeQ P e).map fun n => .copy n d s
      | _, _, _ => none
    | .max => if args.size = 2 then match args[0]?, args[1]? with
      | some x, some y => some (.mx x y)
      | _, _ => none
      else none
    | .min => if args.size = 2 then match args[0]?, args[1]? with
      | some x, some y => some (.mn x y)
      | _, _ => none
      else none
    | .recover => some .recover
    | _ => none
  | .defer { callee := .value f, args, .. } => some (.defer f args)
  | .panic x => some (.panic x)
  | _ => none
def compOpr (ops : Array Oper) (o : Oper) : Option AOpr :=
  if (o.op.operands.all (okOpd GL)) && (o.dst.all (· < N)) then
    (compOp P o).map fun op => { dst := o.dst, op, guard := o.guard.map fun (j, b) => ((ops[j]?).bind (·.dst), b) } else none
def bindsOn (o : Oper) : List Nat := (o.after.toList.filter (Region.binds .any)).map (·.on)
def pkL (n : Nat) : List Nat → Nat
  | [] => 0
  | m :: r => m ||| (pkL n r <<< n)
def pkAt (n M j : Nat) : Nat := (M >>> (n * j)) &&& (2 ^ n - 1)
def clM (n M : Nat) (o : Oper) : Nat := (bindsOn o).foldl (fun m j => m ||| ((1 <<< j) ||| pkAt n M j)) 0
def closeP (n : Nat) (st : Nat × Nat × List Nat) (o : Oper) : Nat × Nat × List Nat := (st.1 + 1, st.2.1 ||| (clM n st.2.1 o <<< (n * st.1)), clM n st.2.1 o :: st.2.2)
def closeM (n : Nat) (l : List Oper) : List Nat := (l.foldl (closeP n) (0, 0, [])).2.2.reverse
def slotsOf (ops : Array Oper) (o : Oper) : List Nat :=
  (o.op.operands.toList.filterMap fun x => match x with
    | .tmp t => some t
    | _ => none) ++ o.dst.toList ++ (match o.guard with
    | some (j, _) => ((ops[j]?).bind (·.dst)).toList
    | none => [])
def isFree (o : AOpr) : Bool := (claimOf 0 o.op).isSome
def drawnW (n : Nat) (ops : Array Oper) : Nat := (List.range n).foldl (fun m j => match (ops[j]?).bind (·.dst) with
  | some t => m ||| (1 <<< (n * t + j))
  | none => m) 0
def slotOK (n : Nat) (ds : List DOpr) (i : Nat) (B : NS) (w : Nat) : Bool :=
  Nat.beq (Nat.land (Nat.mod w (2 ^ i)) B.m) (Nat.mod w (2 ^ i)) && (Nat.beq (Nat.shiftRight w (i + 1)) 0 || (List.range n).all fun j => Nat.ble j i || (!NS.contains ⟨w⟩ j || (ds[j]?).any fun d' => d'.B.contains i))
def drawnC (ds : List DOpr) : List Nat := (List.range ds.length).filter fun j => (ds[j]?).any (·.chain)
def drawnOK (p : Bool) (ops : Array Oper) (ds : List DOpr) : Bool :=
  (List.range ops.size).all fun i => match ops[i]?, ds[i]? with
    | some o, some d =>
      (bindsOn o).all (fun j => Nat.blt j i) && Nat.beq d.B.m (clM ops.size (pkL ops.size (ds.map fun d => d.B.m)) o) && Nat.blt d.B.m (2 ^ ops.size) &&
      (d.chain || (reads d.o.op || (p && isFree d.o))) && (match d.o.op with
        | .defer _ _ => false
        | _ => true) &&
      (!d.chain || (drawnC ds).all fun j => Nat.ble i j || d.B.contains j) &&
      ((slotsOf ops o).all fun t => slotOK ops.size ds i d.B (pkAt ops.size (drawnW ops.size ops) t))
    | _, _ => false
def placed (ds : List DOpr) (i : Nat) : Bool := (List.range ds.length).all fun j => j == i || (match ds[i]?, ds[j]? with
  | some d, some d' => reads d'.o.op || (if j < i then d.B.contains j else d'.B.contains i)
  | _, _ => false)
def freed (p : Bool) (d0 : List DOpr) : List DOpr := if p then (d0.zip (List.range d0.length)).map fun (d, i) => { d with chain := d.chain && !(isFree d.o && !placed d0 i) } else d0
def compDrawnG (p : Bool) (ops : Array Oper) : Option (List DOpr) :=
  (ops.toList.mapM (compOpr P N GL ops)).bind fun l =>
    let d0 := (l.zip (closeM ops.size ops.toList)).map fun (o, m) => ({ o, B := ⟨m⟩, chain := !reads o.op } : DOpr)
    let ds := freed p d0
    if drawnOK p ops ds && ds.length == l.length then some ds else none
def compDrawn (ops : Array Oper) : Option (List DOpr) := compDrawnG P N GL false ops
def compDrawnP (ops : Array Oper) : Option (List DOpr) := compDrawnG P N GL true ops
def compCode : Code → Option ACode
  | .skip => some .skip
  | .region _ ops false => (ops.toList.mapM (compOpr P N GL ops)).map .ops
  | .region _ ops true => match compDrawn P N GL ops with
    | some l => some (.drawn l)
    | none => (compDrawnP P N GL ops).map .drawnP
  | .seq a b => (compCode a).bind fun x => (compCode b).map fun y => .seq x y
  | .cond c a b => if okOpd GL c then (compCode a).bind fun x => (compCode b).map fun y => .cond c x y else none
  | .block id c => (compCode c).map (.block id)
  | .loop c => (compCode c).map .loop
  | .exit id => some (.exit id)
  | .ret => some .ret
  | _ => none
def compRes (r : ResultVar) : Option ARes := match r with
  | .tmp t => some (.tmp t)
  | .cell a t => match aggQ P t, sizeQ P t with
    | some true, some n => some (.cellA n a)
    | some false, some _ => some (.cell a)
    | _, _ => none
end comp
def compFunc (P : Program) (GL : List Nat) (f : Nat) : Option AFunc := match P.funcs[f]? with
  | some fn => if fn.name == "runtime.NumGoroutine" then none else match fn.body with
    | some c => (compCode P fn.ntmps GL c).bind fun body => (fn.results.toList.mapM (compRes P)).map fun results => { ntmps := fn.ntmps, results, body }
    | none => none
  | none => none
structure BI where
  c : Nat
  d : Nat
  u : Nat
  cn : Nat
  ro : Bool
abbrev Inj := Nat → Option BI
inductive VR (ι : Inj) : Value → Value → Prop where
  | bool (b : Bool) : VR ι (.bool b) (.bool b)
  | int (k : IntKind) (n : Int) : VR ι (.int k n) (.int k n)
  | string (s : ByteArray) : VR ι (.string s) (.string s)
  | pnil : VR ι (.pointer none) (.pointer none)
  | ptr (b o : Nat) (i : BI) (h : ι b = some i) : VR ι (.pointer (some ⟨b, o, none⟩)) (.pointer (some ⟨i.c, i.d + o, none⟩))
  | snil : VR ι (.slice none 0 0) (.slice none 0 0)
  | slice (b o : Nat) (sp : Option Nat) (n k : Nat) (i : BI) (a : Addr) (k' : Nat) (h : ι b = some i) (hs : sp ≠ some 2) (hn : n ≤ k) (hk : (i.u = 0 ∨ sp = some 1) ∧ k' = k ∨ (i.u ≠ 0 ∧ sp ≠ some 1 ∧ k ≤ k' ∧ (i.ro = false → i.d + o + k' * i.u = i.cn)))
      (ha : k' ≠ 0 ∨ o = 0 → a = ⟨i.c, i.d + o, none⟩) : VR ι (.slice (some ⟨b, o, sp⟩) n k) (.slice (some a) n k')
  | arg (b o n : Nat) (A : Option Addr) (k' : Nat) (hn : n ≤ k') (ha : n ≠ 0 → ∃ i, ι b = some i ∧ A = some ⟨i.c, i.d + o, none⟩) : VR ι (.slice (some ⟨b, o, some 2⟩) n n) (.slice A n k')
  | mnil : VR ι (.map none) (.map none)
  | map (b : Nat) (i : BI) (h : ι b = some i) : VR ι (.map (some b)) (.map (some i.c))
  | nilFunc : VR ι .nilFunc .nilFunc
  | nilIface : VR ι .nilIface .nilIface
  | func (fn : Fn) (a b a' b' : Array Value) (ha : a.size = a'.size) (hb : b.size = b'.size) (hA : ∀ (j : Nat) (v v' : Value), a[j]? = some v → a'[j]? = some v' → VR ι v v') (hB : ∀ (j : Nat) (v v' : Value), b[j]? = some v → b'[j]? = some v' → VR ι v v') : VR ι (.func fn a b) (.func fn a' b')
  | iface (t : TypeId) (v v' : Value) (h : VR ι v v') : VR ι (.iface t v) (.iface t v')
  | agg (a a' : Array Value) (ha : a.size = a'.size) (hA : ∀ (j : Nat) (v v' : Value), a[j]? = some v → a'[j]? = some v' → VR ι v v') : VR ι (.agg a) (.agg a')
  | tuple (a a' : Array Value) (ha : a.size = a'.size) (hA : ∀ (j : Nat) (v v' : Value), a[j]? = some v → a'[j]? = some v' → VR ι v v') : VR ι (.tuple a) (.tuple a')
def VL (ι : Inj) (l l' : List Value) : Prop := l.length = l'.length ∧ ∀ (j : Nat) (v v' : Value), l[j]? = some v → l'[j]? = some v' → VR ι v v'
def VA (ι : Inj) (a a' : Array Value) : Prop := a.size = a'.size ∧ ∀ (j : Nat) (v v' : Value), a[j]? = some v → a'[j]? = some v' → VR ι v v'
def Ext (ι ι' : Inj) : Prop := ∀ b i, ι b = some i → ι' b = some i
theorem Ext.refl (ι : Inj) : Ext ι ι := fun _ _ h => h
theorem Ext.trans {a b c : Inj} (h : Ext a b) (k : Ext b c) : Ext a c := fun x i e => k x i (h x i e)
theorem VR.ext {ι ι' : Inj} (e : Ext ι ι') {v v' : Value} (h : VR ι v v') : VR ι' v v' := by
  induction h with
  | bool b => exact .bool b
  | int k n => exact .int k n
  | string s => exact .string s
  | pnil => exact .pnil
  | ptr b o i h => exact .ptr b o i (e _ _ h)
  | snil => exact .snil
  | slice b o sp n k i a k' h hs hn hk ha => exact .slice b o sp n k i a k' (e _ _ h) hs hn hk ha
  | arg b o n A k' hn ha => exact .arg b o n A k' hn fun h => by obtain ⟨i, hi, hA⟩ := ha h; exact ⟨i, e _ _ hi, hA⟩
  | mnil => exact .mnil
  | map b i h => exact .map b i (e _ _ h)
  | nilFunc => exact .nilFunc
  | nilIface => exact .nilIface
  | func fn a b a' b' ha hb _ _ ihA ihB => exact .func fn a b a' b' ha hb ihA ihB
  | iface t v v' _ ih => exact .iface t v v' ih
  | agg a a' ha _ ih => exact .agg a a' ha ih
  | tuple a a' ha _ ih => exact .tuple a a' ha ih
theorem VL.ext {ι ι' : Inj} (e : Ext ι ι') {v v' : List Value} (h : VL ι v v') : VL ι' v v' := ⟨h.1, fun j a b x y => (h.2 j a b x y).ext e⟩
theorem VA.ext {ι ι' : Inj} (e : Ext ι ι') {v v' : Array Value} (h : VA ι v v') : VA ι' v v' := ⟨h.1, fun j a b x y => (h.2 j a b x y).ext e⟩
theorem VA.list {ι : Inj} {v v' : Array Value} (h : VA ι v v') : VL ι v.toList v'.toList := ⟨by simpa using h.1, fun j a b x y => h.2 j a b (by simpa using x) (by simpa using y)⟩
theorem VL.array {ι : Inj} {v v' : List Value} (h : VL ι v v') : VA ι v.toArray v'.toArray := ⟨by simpa using h.1, fun j a b x y => h.2 j a b (by simpa using x) (by simpa using y)⟩
theorem flatVR (ι : Inj) : ∀ (f : Nat) (v : Value), flat f v = true → VR ι v v := by
  intro f
  induction f with
  | zero =>
    intro v h
    cases v <;> (try simp [flat] at h) <;> try constructor
    case pointer a => cases a with
      | none => exact .pnil
      | some a => simp [flat] at h
    case map a => cases a with
      | none => exact .mnil
      | some a => simp [flat] at h
    case slice a n k => cases a with
      | none => simp [flat] at h; obtain ⟨rfl, rfl⟩ := h; exact .snil
      | some a => simp [flat] at h
  | succ f ih =>
    intro v h
    cases v with
    | bool b => exact .bool b
    | int k n => exact .int k n
    | string s => exact .string s
    | nilFunc => exact .nilFunc
    | nilIface => exact .nilIface
    | pointer a => cases a with
      | none => exact .pnil
      | some a => simp [flat] at h
    | map a => cases a with
      | none => exact .mnil
      | some a => simp [flat] at h
    | slice a n k => cases a with
      | none => simp [flat] at h; obtain ⟨rfl, rfl⟩ := h; exact .snil
      | some a => simp [flat] at h
    | agg cs =>
      simp only [flat, Array.all_eq_true_iff_forall_mem] at h
      exact .agg _ _ rfl fun j v v' e e' => by rw [e] at e'; cases e'; exact ih v (h v (Array.mem_of_getElem? e))
    | tuple cs =>
      simp only [flat, Array.all_eq_true_iff_forall_mem] at h
      exact .tuple _ _ rfl fun j v v' e e' => by rw [e] at e'; cases e'; exact ih v (h v (Array.mem_of_getElem? e))
    | iface t v => exact .iface t v v (ih v (by simpa [flat] using h))
    | func fn a b =>
      simp only [flat, Bool.and_eq_true, Array.all_eq_true_iff_forall_mem] at h
      exact .func fn a b a b rfl rfl (fun j v v' e e' => by rw [e] at e'; cases e'; exact ih v (h.1 v (Array.mem_of_getElem? e))) (fun j v v' e e' => by rw [e] at e'; cases e'; exact ih v (h.2 v (Array.mem_of_getElem? e)))
    | float k b => simp [flat] at h
    | complex k a b => simp [flat] at h
    | chan a => simp [flat] at h
theorem undefVR (ι : Inj) : VR ι undef undef := .tuple _ _ rfl fun j v v' e => by simp at e
theorem VR.cell {ι : Inj} {v v' : Value} (h : VR ι v v') : isCell v = v'.oneCell' := by cases h <;> rfl
theorem VR.cells {ι : Inj} {v v' : Value} (h : VR ι v v') : VA ι v.cells v'.cells := by
  cases h with
  | agg a a' ha hA => exact ⟨ha, hA⟩
  | _ => exact ⟨rfl, fun j x y e e' => by
      cases j with
      | zero => simp [Value.cells] at e e'; subst e; subst e'; constructor <;> assumption
      | succ j => simp [Value.cells] at e⟩
def OK (ι : Inj) (i : BI) (o : AObj) (w : World) : Prop := match o with
  | .cells cs u ro => (i.u = u.u ∧ (u.z = true → i.d = 0)) ∧ i.ro = ro ∧ ∃ ccs e fr, w.heap[i.c]? = some (.cells ccs e fr) ∧ i.cn = ccs.size ∧ (ro = false → (∀ x, x < ccs.size → ¬ (fr.1 ≤ x ∧ x < fr.2)) ∧ (u.z = true → fr = (0, 0)) ∧ e = u.ty ∧ (u.u = 0 → i.d + cs.length = ccs.size) ∧ (u.u ≠ 0 → u.z = true → ccs.size ≤ 9223372036854775807 * u.u)) ∧ i.d + cs.length ≤ ccs.size ∧ ∀ j v, cs[j]? = some v → ∃ v', ccs[i.d + j]? = some v' ∧ VR ι v v'
  | .map es k => i.ro = false ∧ ∃ es', w.heap[i.c]? = some (.map es' k) ∧ es.length = es'.size ∧ ∀ (j : Nat) (e e' : MapEntry), es[j]? = some e → es'[j]? = some e' → e.born = e'.born ∧ e.key = e'.key ∧ keyO e.key = true ∧ VR ι e.val e'.val
  | .iter s p => i.ro = false ∧ i.d = 0 ∧ w.heap[i.c]? = some (.stringIter s p)
  | .dead => True
def live : Option AObj → Bool
  | some .dead => false
  | some _ => true
  | none => false
structure WR (GL : List Nat) (ι : Inj) (H : Hp) (w : World) : Prop where
  obj : ∀ b i, ι b = some i → ∃ o, H.get b = some o ∧ OK ι i o w
  dom : ∀ b i, ι b = some i → b < H.size ∧ i.c < w.heap.size
  inj : ∀ b b' i i', ι b = some i → ι b' = some i' → b ≠ b' → live (H.get b) = true → live (H.get b') = true → i.ro = false → i.c ≠ i'.c
  glob : ∀ g, g ∈ GL → ∃ i, ι g = some i ∧ i.c = g ∧ i.d = 0
structure Fr (ι : Inj) (w w' : World) : Prop where
  os : w'.os = w.os
  tape : w'.tape = w.tape
  output : w'.output = w.output
  size : w.heap.size ≤ w'.heap.size
  block : ∀ c, c < w.heap.size → (∀ b i, ι b = some i → i.ro = false → i.c ≠ c) → w'.heap[c]? = w.heap[c]?
structure New (ι ι' : Inj) (n : Nat) (w : World) : Prop where
  ext : Ext ι ι'
  new : ∀ b i, ι' b = some i → ι b = none → n ≤ b ∧ i.ro = false ∧ (w.heap.size ≤ i.c ∨ ∃ b0 i0, ι b0 = some i0 ∧ i0.ro = false ∧ i0.c = i.c)
theorem New.refl (ι : Inj) (n : Nat) (w : World) : New ι ι n w := ⟨Ext.refl ι, fun b i h h' => by rw [h] at h'; cases h'⟩
theorem New.weak {ι ι' : Inj} {n m : Nat} {w : World} (h : New ι ι' n w) (hm : m ≤ n) : New ι ι' m w := ⟨h.ext, fun b i a c => by
  obtain ⟨x, y⟩ := h.new b i a c
  exact ⟨by omega, y⟩⟩
theorem New.trans {ι ι' ι'' : Inj} {n n' : Nat} {w w' : World} (h : New ι ι' n w) (k : New ι' ι'' n' w') (hn : n ≤ n') (hs : w.heap.size ≤ w'.heap.size) : New ι ι'' n w := by
  refine ⟨h.ext.trans k.ext, fun b i hi h0 => ?_⟩
  cases h1 : ι' b with
  | some i1 =>
    have := k.ext b i1 h1
    rw [hi] at this
    cases this
    exact h.new b i h1 h0
  | none =>
    obtain ⟨a1, a2, a3⟩ := k.new b i hi h1
    refine ⟨by omega, a2, ?_⟩
    rcases a3 with a3 | ⟨b0, i0, e0, r0, c0⟩
    · exact .inl (by omega)
    · cases h2 : ι b0 with
      | some i2 =>
        have := h.ext b0 i2 h2
        rw [e0] at this
        cases this
        exact .inr ⟨b0, i0, h2, r0, c0⟩
      | none =>
        obtain ⟨_, _, a3⟩ := h.new b0 i0 e0 h2
        rw [c0] at a3
        exact a3
theorem Fr.refl (ι : Inj) (w : World) : Fr ι w w := ⟨rfl, rfl, rfl, Nat.le_refl _, fun _ _ _ => rfl⟩
theorem Fr.trans {ι ι' : Inj} {n : Nat} {w w' w'' : World} (h : Fr ι w w') (k : Fr ι' w' w'') (hn : New ι ι' n w) : Fr ι w w'' := by
  refine ⟨k.os.trans h.os, k.tape.trans h.tape, k.output.trans h.output, Nat.le_trans h.size k.size, fun c hc hno => ?_⟩
  rw [k.block c (by have := h.size; omega) ?_, h.block c hc hno]
  intro b i hi hr hcc
  cases h1 : ι b with
  | some i1 =>
    have := hn.ext b i1 h1
    rw [hi] at this
    cases this
    exact hno b i h1 hr hcc
  | none =>
    obtain ⟨_, _, a3⟩ := hn.new b i hi h1
    rcases a3 with a3 | ⟨b0, i0, e0, r0, c0⟩
    · omega
    · exact hno b0 i0 e0 r0 (c0.trans hcc)
end Go.Proofs.YtehbekgmemebjaaDoorEv
