import Derived.Test.YtehbekgmemebjaaDoorPvK
namespace Go.Proofs.YtehbekgmemebjaaDoorEv
open Go
set_option linter.unusedVariables false
set_option linter.unusedSimpArgs false
def adj1 (A : AState) (d : Nat) : Md → Option (Nx A)
  | .as => some (nxT A fun e => e)
  | .own t ty => match look A.sl d with
    | some (.v (.a .nil)) => some (nxT ⟨.sl t :: A.ts, setS A.sl (some d) (.v (.a (.hd A.ob.length))), A.ob ++ [.sl t ty A.ts.length]⟩ fun e => ([], e))
    | _ => some (nxT A fun e => e)
  | .shr t => match look A.sl d with
    | some (.v (.a .nil)) => some (nxT ⟨.sl t :: A.ts, setS A.sl (some d) (.v (.a (.pu A.ts.length))), A.ob⟩ fun e => ([], e))
    | some (.v x) => some (nxT (frz A ((atsV x).filterMap fun a => match a with
      | .hd j => some j
      | _ => none)) fun e => e)
    | _ => some (nxT A fun e => e)
def nxC {A : AState} (n : Nx A) (n' : Nx n.B) : Nx A := ⟨n'.B, fun e => (n.F e).bind n'.F, fun e κ => n.C e fun e' => n'.C e' κ, fun e κ => by
  rw [n.hC]
  cases n.F e with
  | none => rfl
  | some e' => exact n'.hC e' κ⟩
def adj : (A : AState) → List (Nat × Md) → Option (Nx A)
  | A, [] => some (nxT A fun e => e)
  | A, (d, m) :: r => match adj1 A d m with
    | some n => match adj n.B r with
      | some n' => some (nxC n n')
      | none => none
    | none => none
def canon (A : AState) (keep : List (Nat × Md)) : Option (Nx A) := match adj A keep with
  | some n => match canon0 n.B (keep.map (·.1)) with
    | some n' => some (nxC n n')
    | none => none
  | none => none
inductive Xt where
  | n
  | x (id : Nat)
  | r
  | p (t : Nat)
deriving DecidableEq
structure Xh where
  x : Xt
  keep : List (Nat × Md)
  B : AState
@[reducible] def Out : List Xh → Type
  | [] => Empty
  | h :: r => Sum (Pe h.B.ts) (Out r)
def castK {B C : AState} {γ : Type} (h : B = C) (κ : Pe C.ts → γ) : Pe B.ts → γ := h.symm ▸ κ
def fin (A : AState) (x : Xt) {β : Type} : (X : List Xh) → (Out X → Option β) → Option (Pe A.ts → Option β)
  | [], _ => none
  | h :: r, κ => if h.x = x then (match canon A h.keep with
      | some n => if hB : n.B = h.B then some fun e => n.C e (castK hB fun e' => κ (.inl e')) else none
      | none => none) else fin A x r fun o => κ (.inr o)
inductive Fm where
  | c (c : ACode)
  | m (id : Nat)
structure Lh where
  id : Nat
  keep : List (Nat × Md)
  B : AState
  X : List Xh
def findL : List Lh → Nat → Option Lh
  | [], _ => none
  | l :: r, i => if l.id = i then some l else findL r i
def topM : List Fm → Option Nat
  | [] => none
  | .m i :: _ => some i
  | .c _ :: r => topM r
def iter {α β : Type} (F : α → Option (Sum α β)) : Nat → α → Option β
  | 0, _ => none
  | n + 1, a => match F a with
    | some (.inl a') => iter F n a'
    | some (.inr b) => some b
    | none => none
def sumE {α β γ : Type} (f : α → γ) (g : β → γ) : Sum α β → γ
  | .inl a => f a
  | .inr b => g b
def emE {γ : Type} : Empty → γ := fun o => nomatch o
def outs {β : Type} (go : (h : Xh) → Option (Pe h.B.ts → Option β)) : (X : List Xh) → Option (Out X → Option β)
  | [] => some emE
  | h :: r => match go h, outs go r with
    | some f, some g => some (sumE f g)
    | _, _ => none
def noN : List Xh → Bool
  | [] => true
  | h :: r => h.x != .n && noN r
section
variable {K : Caller} {G : Hp → Prop}
inductive KindO (K : Caller) (G : Hp → Prop) where
  | pan (t : Nat)
  | callP (p : PP K G) (args : List Operand)
  | dead
  | other
def kindO (PQ : List (PP K G)) (A : AState) : AOp → KindO K G
  | .panic x => match opA A x with
    | some (.a (.ifc t)) => .pan t
    | _ => .other
  | .call f args => match f with
    | .func f => match findQ PQ f with
      | some p => .callP p args.toList
      | none => .other
    | _ => .other
  | .ixS _ x _ => match opA A x with
    | some (.a .nil) => .dead
    | _ => .other
  | _ => .other
def preQ (A : AState) (p : PP K G) (args : List Operand) : List Nat := if flatR p.res then [] else args.flatMap (hdO A)
def runO (PT : List (PC K G)) (TT : Nat → Option Ty) (PQ : List (PP K G)) (k : Nat) {β : Type} (pn : Nat → (A : AState) → Option (Pe A.ts → Option β)) (fn : (A : AState) → Option (Pe A.ts → Option β)) : Nat → List AOpr → (A : AState) → Option (Pe A.ts → Option β)
  | 0, _, _ => none
  | _ + 1, [], A => fn A
  | n + 1, o :: r, A => match o.guard with
    | none => match kindO PQ A o.op with
      | .pan t => pn t A
      | .dead => some fun _ => none
      | .callP p args => match argsF (frz A (preQ A p args)) (flatR p.res) args p.args, runO PT TT PQ k pn fn n r ⟨rsT p.res A.ts, setS (frz A (preQ A p args)).sl o.dst (packA (rsL p.res A.ts (frz A (preQ A p args)).ob.length)), (frz A (preQ A p args)).ob ++ rsO p.res A.ts⟩, pn p.t (frz A (preQ A p args)) with
        | some g, some F1, some F2 => if ownN p.res ≤ 1 then some fun e => (p.F k (g e)).bind (sumE (fun x => F1 (rsF p.res A.ts x e)) fun _ => F2 e) else none
        | _, _, _ => none
      | .other => match trOp PT TT k (frz A (preF PT A o.op)) o.dst o.op with
        | some nx => match runO PT TT PQ k pn fn n r nx.B with
          | some F => some fun e => nx.C e F
          | none => none
        | none => none
    | some (some j, want) => match look A.sl j with
      | some (.v (.a (.cst (.bool b)))) => if b = want then runO PT TT PQ k pn fn n (⟨o.dst, o.op, none⟩ :: r) A else runO PT TT PQ k pn fn n r ⟨A.ts, setS A.sl o.dst .un, A.ob⟩
      | some .un => runO PT TT PQ k pn fn n r ⟨A.ts, setS A.sl o.dst .un, A.ob⟩
      | _ => match exO A (.tmp j) .bool with
        | some f => match runO PT TT PQ k pn fn n (o :: r) ⟨A.ts, setS A.sl (some j) (.v (.a (.cst (.bool true)))), A.ob⟩, runO PT TT PQ k pn fn n (o :: r) ⟨A.ts, setS A.sl (some j) (.v (.a (.cst (.bool false)))), A.ob⟩ with
          | some F1, some F2 => some fun e => if f e = true then F1 e else F2 e
          | _, _ => none
        | none => none
    | some (none, _) => none
def isBp (A : AState) (j d : Nat) : Bool := match look A.sl d with
  | some (.v (.a (.bp j' _))) => decide (j = j')
  | _ => false
def farBp (A : AState) (j d : Nat) : Bool := match look A.sl d with
  | some (.v (.a (.bp j' _))) => decide (j ≠ j') && (A.ob[j]?).any Ob.live && (A.ob[j']?).any Ob.live
  | _ => false
def safeO (A : AState) (S : List Nat) : AOp → Bool
  | .load x => match opA A x with
    | some (.a (.bp j _)) => S.any (isBp A j)
    | _ => false
  | .store _ a _ => match opA A a with
    | some (.a (.ep j _ _ _)) => S.all (farBp A j)
    | _ => false
  | o => hfree o
def chkO {K : Caller} {G : Hp → Prop} (PT : List (PC K G)) (TT : Nat → Option Ty) (k : Nat) (S : List Nat) : Nat → List AOpr → AState → Bool
  | 0, _, _ => false
  | _ + 1, [], _ => true
  | n + 1, o :: r, A => match o.guard with
    | none => match trOp PT TT k (frz A (preF PT A o.op)) o.dst o.op with
      | some nx => o.dst.all (fun t => !S.contains t) && safeO (frz A (preF PT A o.op)) S o.op && chkO PT TT k S n r nx.B
      | none => true
    | some (some j, want) => match look A.sl j with
      | some (.v (.a (.cst (.bool b)))) => if b = want then chkO PT TT k S n (⟨o.dst, o.op, none⟩ :: r) A else o.dst.all (fun t => !S.contains t) && chkO PT TT k S n r ⟨A.ts, setS A.sl o.dst .un, A.ob⟩
      | some .un => o.dst.all (fun t => !S.contains t) && chkO PT TT k S n r ⟨A.ts, setS A.sl o.dst .un, A.ob⟩
      | _ => chkO PT TT k S n (o :: r) ⟨A.ts, setS A.sl (some j) (.v (.a (.cst (.bool true)))), A.ob⟩ && chkO PT TT k S n (o :: r) ⟨A.ts, setS A.sl (some j) (.v (.a (.cst (.bool false)))), A.ob⟩
    | some (none, _) => true
def bpS (A : AState) (l : List DOpr) : List Nat := (A.sl.map Prod.fst).filter fun d => (match look A.sl d with
  | some (.v (.a (.bp _ _))) => true
  | _ => false) && l.all fun o => o.o.dst.all fun t => t != d
def okD {K : Caller} {G : Hp → Prop} (PT : List (PC K G)) (TT : Nat → Option Ty) (k : Nat) (A : AState) (l : List DOpr) : Bool := rigid l || (steady l && (l.all (fun d => reads d.o.op) || chkO PT TT k (bpS A l) (3 * l.length + 1) (l.map DOpr.o) A))
def kn (A : AState) (x : Operand) (b : Bool) : AState := ⟨A.ts, match x with
  | .tmp j => setS A.sl (some j) (.v (.a (.cst (.bool b))))
  | _ => A.sl, A.ob⟩
def hashO : List AOpr → Nat → Nat
  | [], h => h
  | o :: r, h => hashO r ((h * 31 + (match o.dst with
    | some d => d + 1
    | none => 0)) % 1000003)
def hashC : ACode → Nat → Nat
  | .skip, h => (h * 31 + 1) % 1000003
  | .ops l, h => hashO l h
  | .drawn l, h => hashO (l.map DOpr.o) h
  | .drawnP l, h => hashO (l.map DOpr.o) h
  | .seq a b, h => hashC b (hashC a h)
  | .cond x a b, h => hashC b (hashC a ((h * 31 + 2 + (match x with
    | .tmp j => j
    | _ => 0)) % 1000003))
  | .block _ c, h => hashC c h
  | .loop c, h => hashC c ((h * 31 + 3) % 1000003)
  | .exit i, h => (h * 31 + i + 5) % 1000003
  | .ret, h => (h * 31 + 4) % 1000003
def findJ (LT : List Lh) (b : ACode) : Option Lh := findL LT (1000000 + hashC b 7)
mutual
def run (PT : List (PC K G)) (TT : Nat → Option Ty) (PQ : List (PP K G)) (LT : List Lh) (k : Nat) : Nat → ACode → List Fm → (A : AState) → {β : Type} → (X : List Xh) → (Out X → Option β) → Option (Pe A.ts → Option β)
  | 0, _, _, _, _, _, _ => none
  | n + 1, c, stk, A, _, X, κ => match c with
    | .skip => exi PT TT PQ LT k n .n stk A X κ
    | .ops l => runO PT TT PQ k (fun t B => exi PT TT PQ LT k n (.p t) stk B X κ) (fun B => exi PT TT PQ LT k n .n stk B X κ) (3 * l.length + 1) l A
    | .drawn l => if okD PT TT k A l then runO PT TT PQ k (fun _ _ => none) (fun B => exi PT TT PQ LT k n .n stk B X κ) (3 * l.length + 1) (l.map DOpr.o) A else none
    | .drawnP _ => none
    | .seq a b => match findJ LT b with
      | some h => match run PT TT PQ LT k n a [] A (⟨.n, h.keep, h.B⟩ :: h.X) some, run PT TT PQ LT k n b stk h.B X κ, outs (fun x => exi PT TT PQ LT k n x.x stk x.B X κ) h.X with
        | some F, some F2, some g => if noN h.X = true then some fun e => (F e).bind (sumE F2 g) else none
        | _, _, _ => none
      | none => run PT TT PQ LT k n a (.c b :: stk) A X κ
    | .cond x a b => match opA A x with
      | some (.a (.cst (.bool t))) => if t then run PT TT PQ LT k n a stk A X κ else run PT TT PQ LT k n b stk A X κ
      | _ => match exO A x .bool, run PT TT PQ LT k n a stk (kn A x true) X κ, run PT TT PQ LT k n b stk (kn A x false) X κ with
        | some f, some F1, some F2 => some fun e => if f e = true then F1 e else F2 e
        | _, _, _ => none
    | .block id c => run PT TT PQ LT k n c (.m id :: stk) A X κ
    | .loop c => match topM stk with
      | some i => match findL LT i with
        | some h => match canon A h.keep, run PT TT PQ LT k n c [] h.B (⟨.n, h.keep, h.B⟩ :: h.X) some, outs (fun x => exi PT TT PQ LT k n x.x stk x.B X κ) h.X with
          | some nx, some F, some g => if hB : nx.B = h.B then (if noN h.X = true then some fun e => nx.C e (castK hB fun e' => (iter F k e').bind g) else none) else none
          | _, _, _ => none
        | none => none
      | none => none
    | .exit id => exi PT TT PQ LT k n (.x id) stk A X κ
    | .ret => exi PT TT PQ LT k n .r stk A X κ
def exi (PT : List (PC K G)) (TT : Nat → Option Ty) (PQ : List (PP K G)) (LT : List Lh) (k : Nat) : Nat → Xt → List Fm → (A : AState) → {β : Type} → (X : List Xh) → (Out X → Option β) → Option (Pe A.ts → Option β)
  | 0, _, _, _, _, _, _ => none
  | n + 1, x, stk, A, _, X, κ => match stk with
    | [] => fin A x X κ
    | .c c :: r => match x with
      | .n => run PT TT PQ LT k n c r A X κ
      | x => exi PT TT PQ LT k n x r A X κ
    | .m j :: r => match x with
      | .x i => if i = j then exi PT TT PQ LT k n .n r A X κ else exi PT TT PQ LT k n (.x i) r A X κ
      | x => exi PT TT PQ LT k n x r A X κ
end
end
end Go.Proofs.YtehbekgmemebjaaDoorEv
