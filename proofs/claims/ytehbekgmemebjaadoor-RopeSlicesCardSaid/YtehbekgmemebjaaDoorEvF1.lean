import Derived.Test.YtehbekgmemebjaaDoorEvA
namespace Go.Proofs.YtehbekgmemebjaaDoorEv
open Go
set_option linter.unusedVariables false
set_option linter.unusedSimpArgs false
noncomputable section
def o_mv (ρ : Env) (H : Hp) (x : Operand) : Option OR := some (.ok (ρ x) H)
def o_pick (ρ : Env) (H : Hp) (c : Operand) (a : Operand) (b : Operand) : Option OR := match ρ c with
    | .bool t => some (.ok (if t then ρ a else ρ b) H)
    | _ => none
def o_new (ρ : Env) (H : Hp) (ty : Nat) (zero : List Value) : Option OR := some (.ok (.pointer (some ⟨H.size, 0, none⟩)) (H.new (.cells zero ⟨0, ty, true⟩ false)))
def o_box (ρ : Env) (H : Hp) (ty : Nat) (x : Operand) : Option OR := some (.ok (.pointer (some ⟨H.size, 0, none⟩)) (H.new (.cells (ρ x).cells.toList ⟨0, ty, true⟩ false)))
def o_build (ρ : Env) (H : Hp) (zero : Array Value) (places : Array (Nat × Nat)) (parts : Array (Nat × Operand)) : Option OR := (Instr.fill (places[·]?) zero (parts.map fun (i, x) => (i, ρ x)).toList).map fun cs => .ok (.agg cs) H
def o_buildA (ρ : Env) (H : Hp) (zero : Array Value) (size : Nat) (parts : Array (Nat × Operand)) : Option OR := (Instr.fill (fun i => some (i * size, size)) zero (parts.map fun (i, x) => (i, ρ x)).toList).map fun cs => .ok (.agg cs) H
def o_bslice (ρ : Env) (H : Hp) (ty : Nat) (zero : Array Value) (size : Nat) (len : Nat) (parts : Array (Nat × Operand)) : Option OR := (Instr.fill (fun i => some (i * size, size)) (bCells zero (len * size)) (parts.map fun (i, x) => (i, ρ x)).toList).map fun cs =>
      .ok (.slice (some ⟨H.size, 0, none⟩) len len) (H.new (.cells cs.toList ⟨0, ty, true⟩ false))
def o_load (ρ : Env) (H : Hp) (a : Operand) : Option OR := (loadO H (ρ a)).map (.ok · H)
def o_loadA (ρ : Env) (H : Hp) (n : Nat) (a : Operand) : Option OR := (loadAO H n (ρ a)).map (.ok · H)
def o_store (ρ : Env) (H : Hp) (n : Nat) (a : Operand) (x : Operand) : Option OR := (storeO H n (ρ x) (ρ a)).map (.ok undef ·)
def o_nilchk (ρ : Env) (H : Hp) (x : Operand) : Option OR := match ρ x with
    | .pointer none | .nilIface | .nilFunc => none
    | .func (.func f) a b => some (.ok (.func (.func f) a b) H)
    | .pointer (some a) => some (.ok (.pointer (some a)) H)
    | _ => none
def o_bin (ρ : Env) (H : Hp) (op : BinOp) (x : Operand) (y : Operand) : Option OR := (binO op (ρ x) (ρ y)).map (.ok · H)
def o_eq (ρ : Env) (H : Hp) (kind : Nat) (neg : Bool) (x : Operand) (y : Operand) : Option OR := (eqO kind (ρ x) (ρ y)).map fun b => .ok (.bool (if neg then !b else b)) H
def o_un (ρ : Env) (H : Hp) (op : UnOp) (x : Operand) : Option OR := (unO op (ρ x)).map (.ok · H)
def o_convI (ρ : Env) (H : Hp) (k : IntKind) (x : Operand) : Option OR := match ρ x with
    | .int _ n => some (.ok (.int k (k.wrap n)) H)
    | _ => none
def o_convBS (ρ : Env) (H : Hp) (x : Operand) : Option OR := match ρ x with
    | .slice b n k => ((sliceCells H 1 (.slice b n k)).bind intsO).map fun l => .ok (.string (strOfNums l)) H
    | _ => none
def o_convS (ρ : Env) (H : Hp) (x : Operand) : Option OR := match ρ x with
    | .string s => some (.ok (.string s) H)
    | _ => none
def o_convSB (ρ : Env) (H : Hp) (ty : Nat) (x : Operand) : Option OR := match ρ x with
    | .string s => some (.ok (.slice (some ⟨H.size, 0, none⟩) s.size s.size) (H.new (.cells (strB s) ⟨1, ty, false⟩ false)))
    | _ => none
def o_iface (ρ : Env) (H : Hp) (t : TypeId) (x : Operand) : Option OR := some (.ok (.iface t (ρ x)) H)
def o_func (ρ : Env) (H : Hp) (fn : Fn) (a : Array Operand) (b : Array Operand) : Option OR := some (.ok (.func fn (a.map ρ) (b.map ρ)) H)
def o_mkmap (ρ : Env) (H : Hp)  : Option OR := some (.ok (.map (some H.size)) (H.new (.map [] 0)))
def o_mkslice (ρ : Env) (H : Hp) (ty : Nat) (zero : Array Value) (size : Nat) (bytes : Nat) (len : Operand) (cap : Operand) : Option OR := match ρ len, ρ cap with
    | .int .i64 l, .int .i64 c => if 0 ≤ l ∧ l ≤ c ∧ c * bytes ≤ 140737488355328 ∧ c ≤ 140737488355328 then
        some (.ok (.slice (some ⟨H.size, 0, none⟩) l.toNat c.toNat) (H.new (.cells (bCells zero (c.toNat * size)).toList ⟨0, ty, true⟩ false))) else none
    | _, _ => none
def o_slc (ρ : Env) (H : Hp) (size : Nat) (x : Operand) (lo : Option Operand) (hi : Option Operand) (mx : Option Operand) : Option OR := (sliceO H size (ρ x) (lo.map ρ) (hi.map ρ) (mx.map ρ)).map (.ok · H)
def o_slcS (ρ : Env) (H : Hp) (x : Operand) (lo : Option Operand) (hi : Option Operand) : Option OR := match ρ x with
    | .string s => (boundsO s.size s.size (lo.map ρ) (hi.map ρ) none).map fun (l, h, _) => .ok (.string (s.extract l h)) H
    | _ => none
def o_slcA (ρ : Env) (H : Hp) (n : Nat) (size : Nat) (x : Operand) (lo : Option Operand) (hi : Option Operand) (mx : Option Operand) : Option OR := match ρ x with
    | .pointer (some ⟨b, o, none⟩) => match H.get b with
      | some (.cells _ ⟨0, _, _⟩ _) => (boundsO n n (lo.map ρ) (hi.map ρ) (mx.map ρ)).map fun (l, h, m) => .ok (.slice (some ⟨b, o + l * size, none⟩) (h - l) (m - l)) H
      | _ => none
    | _ => none
def o_off (ρ : Env) (H : Hp) (x : Operand) (k : Nat) : Option OR := match ρ x with
    | .pointer (some ⟨b, o, none⟩) => some (.ok (.pointer (some ⟨b, o + k, none⟩)) H)
    | _ => none
def o_fld (ρ : Env) (H : Hp) (agg : Bool) (o : Nat) (n : Nat) (x : Operand) : Option OR := match ρ x with
    | .agg cs => if agg then (if o + n ≤ cs.size then some (.ok (.agg (cs.extract o (o + n))) H) else none) else (cs[o]?).map (.ok · H)
    | _ => none
def o_ixS (ρ : Env) (H : Hp) (size : Nat) (x : Operand) (i : Operand) : Option OR := match ρ x, ρ i with
    | .slice (some ⟨b, o, _⟩) n _, .int _ j => if 0 ≤ j ∧ j < n then some (.ok (.pointer (some ⟨b, o + j.toNat * size, none⟩)) H) else none
    | _, _ => none
def o_ixA (ρ : Env) (H : Hp) (n : Nat) (size : Nat) (x : Operand) (i : Operand) : Option OR := match ρ x, ρ i with
    | .pointer (some ⟨b, o, none⟩), .int _ j => if 0 ≤ j ∧ j < n then some (.ok (.pointer (some ⟨b, o + j.toNat * size, none⟩)) H) else none
    | _, _ => none
def o_ixStr (ρ : Env) (H : Hp) (x : Operand) (i : Operand) : Option OR := match ρ x, ρ i with
    | .string s, .int _ j => if 0 ≤ j then (s[j.toNat]?).map fun b => .ok (.int .u8 b.toNat) H else none
    | _, _ => none
def o_ixAgg (ρ : Env) (H : Hp) (agg : Bool) (n : Nat) (size : Nat) (x : Operand) (i : Operand) : Option OR := match ρ x, ρ i with
    | .agg cs, .int _ j => if 0 ≤ j ∧ j < n then
        (if agg then (if j.toNat * size + size ≤ cs.size then some (.ok (.agg (cs.extract (j.toNat * size) (j.toNat * size + size))) H) else none) else (cs[j.toNat * size]?).map (.ok · H)) else none
    | _, _ => none
def o_lookup (ρ : Env) (H : Hp) (kd : Nat) (zero : Value) (x : Operand) (i : Operand) (ok : Bool) : Option OR := match ρ x with
    | .map none => if keyIs kd (ρ i) then some (.ok (if ok then .tuple #[zero, .bool false] else zero) H) else none
    | .map (some r) => match H.get r with
      | some (.map es _) => if fitsAll kd (ρ i) es then
          (match es.find? fun e => sameK (ρ i) e.key with
          | some e => some (.ok (if ok then .tuple #[e.val, .bool true] else e.val) H)
          | none => some (.ok (if ok then .tuple #[zero, .bool false] else zero) H)) else none
      | _ => none
    | _ => none
def o_mapUpd (ρ : Env) (H : Hp) (kd : Nat) (m : Operand) (k : Operand) (x : Operand) : Option OR := match ρ m with
    | .map (some r) => match H.get r with
      | some (.map es c) => if fitsAll kd (ρ k) es then
          (match es.findIdx? fun e => sameK (ρ k) e.key with
          | some i => some (.ok undef (H.put r (.map (es.modify i fun e => { e with key := ρ k, val := ρ x }) c)))
          | none => some (.ok undef (H.put r (.map (es ++ [{ key := ρ k, val := ρ x, born := c }]) (c + 1))))) else none
      | _ => none
    | _ => none
def o_rangeS (ρ : Env) (H : Hp) (x : Operand) : Option OR := match ρ x with
    | .string s => some (.ok (.pointer (some ⟨H.size, 0, none⟩)) (H.new (.iter s 0)))
    | _ => none
def o_nextS (ρ : Env) (H : Hp) (x : Operand) : Option OR := match ρ x with
    | .pointer (some ⟨r, 0, none⟩) => match H.get r with
      | some (.iter s pos) => if pos < s.size then some (.ok (.tuple #[.bool true, .int .i64 pos, .int .i32 (Utf8.decode s pos).1]) (H.put r (.iter s (pos + (Utf8.decode s pos).2))))
        else some (.ok (.tuple #[.bool false]) H)
      | _ => none
    | _ => none
def o_assert (ρ : Env) (H : Hp) (t : TypeId) (zero : Value) (x : Operand) (ok : Bool) : Option OR := match ρ x with
    | .iface u v => if u = t then some (.ok (if ok then .tuple #[v, .bool true] else v) H) else if ok then some (.ok (.tuple #[zero, .bool false]) H) else none
    | .nilIface => if ok then some (.ok (.tuple #[zero, .bool false]) H) else none
    | _ => none
def o_extract (ρ : Env) (H : Hp) (x : Operand) (i : Nat) : Option OR := match ρ x with
    | .tuple vs => (vs[i]?).map (.ok · H)
    | _ => none
def o_call (ρ : Env) (H : Hp) (f : Operand) (args : Array Operand) : Option OR := match ρ f with
    | .func (.func g) first captured => some (.call g (first ++ args.map ρ ++ captured))
    | _ => none
def o_lenS (ρ : Env) (H : Hp) (x : Operand) : Option OR := match ρ x with
    | .string s => some (.ok (.int .i64 s.size) H)
    | _ => none
def o_lenL (ρ : Env) (H : Hp) (x : Operand) : Option OR := match ρ x with
    | .slice _ n _ => some (.ok (.int .i64 n) H)
    | _ => none
def o_lenM (ρ : Env) (H : Hp) (x : Operand) : Option OR := match ρ x with
    | .map none => some (.ok (.int .i64 0) H)
    | .map (some r) => match H.get r with
      | some (.map es _) => some (.ok (.int .i64 es.length) H)
      | _ => none
    | _ => none
def o_lenC (ρ : Env) (H : Hp) (n : Nat) : Option OR := some (.ok (.int .i64 n) H)
def o_append (ρ : Env) (H : Hp) (ty : Nat) (size : Nat) (bytes : Nat) (s : Operand) (x : Operand) : Option OR := (appendO H ty size bytes (ρ s) (ρ x)).map fun (v, H) => .ok v H
def o_copy (ρ : Env) (H : Hp) (size : Nat) (d : Operand) (s : Operand) : Option OR := match ρ d with
    | .slice base dn _ => do
      let m ← lenO (ρ s)
      let cs ← sliceCells H size (ρ s)
      let new := cs.take (min m dn * size)
      match base with
      | none => some (.ok (.int .i64 (min m dn : Nat)) H)
      | some ⟨b, o, sp⟩ => match H.get b with
        | some (.cells ds u ro) => if sp = some 2 then none else if min m dn = 0 then some (.ok (.int .i64 0) H) else if ro = false ∧ o + min m dn * size ≤ ds.length ∧ new.all isCell = true then some (.ok (.int .i64 (min m dn : Nat)) (H.put b (.cells (setL ds o new) u ro))) else none
        | _ => none
    | _ => none
def o_mx (ρ : Env) (H : Hp) (x : Operand) (y : Operand) : Option OR := (mx2 (ρ x) (ρ y)).map (.ok · H)
def o_mn (ρ : Env) (H : Hp) (x : Operand) (y : Operand) : Option OR := (mn2 (ρ x) (ρ y)).map (.ok · H)
def o_delete (ρ : Env) (H : Hp) (kd : Nat) (m : Operand) (k : Operand) : Option OR := match ρ m with
    | .map none => if keyIs kd (ρ k) then some (.ok (.tuple #[]) H) else none
    | .map (some r) => match H.get r with
      | some (.map es c) => if fitsAll kd (ρ k) es then
          (match es.findIdx? fun e => sameK (ρ k) e.key with
          | some i => some (.ok (.tuple #[]) (H.put r (.map (es.eraseIdx i) c)))
          | none => some (.ok (.tuple #[]) (H.put r (.map es c)))) else none
      | _ => none
    | _ => none
def o_defer (ρ : Env) (H : Hp) (f : Operand) (args : Array Operand) : Option OR := match ρ f with
    | .func (.func g) first captured => some (.defer g (first ++ args.map ρ ++ captured))
    | _ => none
def o_recover (ρ : Env) (H : Hp)  : Option OR := some .recover
def o_panic (ρ : Env) (H : Hp) (x : Operand) : Option OR := match ρ x with
    | .iface t v => some (.panic (.iface t v))
    | _ => none
def o_claimN (ρ : Env) (H : Hp) (b : Nat) (ty : Nat) (zero : List Value) : Option OR := if heldAt H b ty zero then some (.ok (.pointer (some ⟨b, 0, none⟩)) H) else none
def o_claimB (ρ : Env) (H : Hp) (b : Nat) (ty : Nat) (x : Operand) : Option OR := if heldAt H b ty (ρ x).cells.toList then some (.ok (.pointer (some ⟨b, 0, none⟩)) H) else none
def o_claimS (ρ : Env) (H : Hp) (b : Nat) (ty : Nat) (zero : Array Value) (size : Nat) (len : Nat) (parts : Array (Nat × Operand)) : Option OR := match Instr.fill (fun i => some (i * size, size)) (bCells zero (len * size)) (parts.map fun (i, x) => (i, ρ x)).toList with
    | some cs => if heldAt H b ty cs.toList then some (.ok (.slice (some ⟨b, 0, none⟩) len len) H) else none
    | none => none
def o_claimM (ρ : Env) (H : Hp) (b : Nat) (ty : Nat) (zero : Array Value) (size : Nat) (bytes : Nat) (len : Operand) (cap : Operand) : Option OR := match ρ len, ρ cap with
    | .int .i64 l, .int .i64 c => if 0 ≤ l ∧ l ≤ c ∧ c * bytes ≤ 140737488355328 ∧ c ≤ 140737488355328 then
        (if heldAt H b ty (bCells zero (c.toNat * size)).toList then some (.ok (.slice (some ⟨b, 0, none⟩) l.toNat c.toNat) H) else none) else none
    | _, _ => none
def evOpF (ρ : Env) (H : Hp) : AOp → Option OR
  | .mv x => o_mv ρ H x
  | .pick c a b => o_pick ρ H c a b
  | .new ty zero => o_new ρ H ty zero
  | .box ty x => o_box ρ H ty x
  | .build zero places parts => o_build ρ H zero places parts
  | .buildA zero size parts => o_buildA ρ H zero size parts
  | .bslice ty zero size len parts => o_bslice ρ H ty zero size len parts
  | .load a => o_load ρ H a
  | .loadA n a => o_loadA ρ H n a
  | .store n a x => o_store ρ H n a x
  | .nilchk x => o_nilchk ρ H x
  | .bin op x y => o_bin ρ H op x y
  | .eq kind neg x y => o_eq ρ H kind neg x y
  | .un op x => o_un ρ H op x
  | .convI k x => o_convI ρ H k x
  | .convBS x => o_convBS ρ H x
  | .convS x => o_convS ρ H x
  | .convSB ty x => o_convSB ρ H ty x
  | .iface t x => o_iface ρ H t x
  | .func fn a b => o_func ρ H fn a b
  | .mkmap  => o_mkmap ρ H
  | .mkslice ty zero size bytes len cap => o_mkslice ρ H ty zero size bytes len cap
  | .slc size x lo hi mx => o_slc ρ H size x lo hi mx
  | .slcS x lo hi => o_slcS ρ H x lo hi
  | .slcA n size x lo hi mx => o_slcA ρ H n size x lo hi mx
  | .off x k => o_off ρ H x k
  | .fld agg o n x => o_fld ρ H agg o n x
  | .ixS size x i => o_ixS ρ H size x i
  | .ixA n size x i => o_ixA ρ H n size x i
  | .ixStr x i => o_ixStr ρ H x i
  | .ixAgg agg n size x i => o_ixAgg ρ H agg n size x i
  | .lookup kd zero x i ok => o_lookup ρ H kd zero x i ok
  | .mapUpd kd m k x => o_mapUpd ρ H kd m k x
  | .rangeS x => o_rangeS ρ H x
  | .nextS x => o_nextS ρ H x
  | .assert t zero x ok => o_assert ρ H t zero x ok
  | .extract x i => o_extract ρ H x i
  | .call f args => o_call ρ H f args
  | .lenS x => o_lenS ρ H x
  | .lenL x => o_lenL ρ H x
  | .lenM x => o_lenM ρ H x
  | .lenC n => o_lenC ρ H n
  | .append ty size bytes s x => o_append ρ H ty size bytes s x
  | .copy size d s => o_copy ρ H size d s
  | .mx x y => o_mx ρ H x y
  | .mn x y => o_mn ρ H x y
  | .delete kd m k => o_delete ρ H kd m k
  | .defer f args => o_defer ρ H f args
  | .recover  => o_recover ρ H
  | .panic x => o_panic ρ H x
  | .claimN b ty zero => o_claimN ρ H b ty zero
  | .claimB b ty x => o_claimB ρ H b ty x
  | .claimS b ty zero size len parts => o_claimS ρ H b ty zero size len parts
  | .claimM b ty zero size bytes len cap => o_claimM ρ H b ty zero size bytes len cap
theorem evOpF_eq (ρ : Env) (H : Hp) (o : AOp) : evOpF ρ H o = evOp ρ H o := by cases o <;> rfl
def evOprF (call : Caller) (o : AOpr) (s : St) : Option (AExit × St) :=
  if wantedO s o.guard then
    match evOpF s.env s.H o.op with
    | some (.ok v H) => some (.normal, { s with H }.put o.dst v)
    | some (.call f args) => match call f args s.H with
      | some (.ret v H) => some (.normal, { s with H }.put o.dst v)
      | some (.pan v H) => some (.pan v, { s with H })
      | none => none
    | some (.defer f args) => if s.df then none else some (.normal, { s with ds := (f, args) :: s.ds }.put o.dst undef)
    | some .recover => if s.df then match s.pm with
        | some (v, false) => some (.normal, { s with pm := some (v, true) }.put o.dst v)
        | _ => some (.normal, s.put o.dst .nilIface)
      else none
    | some (.panic v) => some (.pan v, s)
    | none => none
  else some (.normal, s.put o.dst undef)
def cSeq (r : Option (AExit × St)) (k : St → Option (AExit × St)) : Option (AExit × St) := match r with
  | some (.normal, s1) => k s1
  | e => e
def evOpsF (call : Caller) (l : List AOpr) : St → Option (AExit × St) := List.rec (motive := fun _ => St → Option (AExit × St)) (fun s => some (.normal, s)) (fun o _ ih s => cSeq (evOprF call o s) ih) l
def okAtF (d : DOpr) (r : Rec) (G : Hp) : Bool :=
  if wantedO r.s d.o.guard then match evOpF r.s.env G d.o.op with
    | some (.ok v _) => eqV 3 v r.v
    | _ => false
  else true
def stepDF (call : Caller) (i : Nat) (d : DOpr) (x : DSt) : Option DSt :=
  match x.pan with
  | some (p, v) => if d.B.contains p then some { x with rs := none :: x.rs } else if d.chain then none else
      (match evOprF call d.o x.s with
      | some (.normal, s1) => some { x with s := s1, rs := some ⟨x.s, s1.getO d.o.dst⟩ :: x.rs }
      | _ => none)
  | none =>
    match evOprF call d.o x.s with
    | some (.normal, s1) => some { s := s1, Gs := if d.chain then s1.H :: x.Gs else x.Gs, rs := some ⟨x.s, s1.getO d.o.dst⟩ :: x.rs, pan := none }
    | some (.pan v, s1) => if d.chain then some { s := s1, Gs := s1.H :: x.Gs, rs := none :: x.rs, pan := some (i, v) } else none
    | _ => none
def runDF (call : Caller) : Nat → List DOpr → DSt → Option DSt
  | _, [], x => some x
  | i, d :: r, x => match stepDF call i d x with
    | some x1 => runDF call (i + 1) r x1
    | none => none
def checkGF (cs : List (Nat × Nat × NS)) (i : Nat) (B : NS) (d : DOpr) (r : Rec) : Nat → List Hp → Bool
  | _, [] => true
  | m, G :: Gs => (!stageF cs i B m || okAtF d r G) && checkGF cs i B d r (m + 1) Gs
def checkHF (cs : List (Nat × Nat × NS)) (Gs : List Hp) : Nat → List DOpr → List (Option Rec) → Bool
  | i, d :: l, r :: rs => (match r with
    | some r => d.chain || hfree d.o.op || checkGF cs i d.B d r 0 Gs
    | none => true) && checkHF cs Gs (i + 1) l rs
  | _, _, _ => true
def checkFF (l : List DOpr) (rs : List (Option Rec)) (Gs : List Hp) : Bool := checkHF (chainsOf l 0 0) Gs 0 l rs
def evDrawnF (call : Caller) (l : List DOpr) (s : St) : Option (AExit × St) :=
  match runDF call 0 l { s, Gs := [s.H], rs := [], pan := none } with
  | none => none
  | some x => if checkFF l x.rs.reverse x.Gs.reverse then
      (match x.pan with
      | none => some (.normal, x.s)
      | some (_, v) => some (.pan v, { poison l s with H := x.s.H, ds := x.s.ds, pm := x.s.pm })) else none
def preVF (d : DOpr) (s : St) : St := match (if reads d.o.op then evOpF s.env s.H d.o.op else none) with
  | some (.ok v _) => s.put d.o.dst v
  | _ => s.put d.o.dst bad
def preDF : List DOpr → St → Option (List DOpr × Hp)
  | [], s => some ([], s.H)
  | d :: r, s => if d.chain || reads d.o.op then
      (match preDF r (preVF d s) with
      | some (l, H) => some (d :: l, H)
      | none => none)
    else (match claimOf s.H.size d.o.op, evOpF s.env s.H d.o.op with
      | some c, some (.ok v H1) => (match preDF r ({ s with H := H1 }.put d.o.dst v) with
        | some (l, H) => some ({ d with o := { d.o with op := c } } :: l, H)
        | none => none)
      | _, _ => none)
def cCond (v : Value) (a b : St → Option (AExit × St)) (s : St) : Option (AExit × St) := match v with
  | .bool true => a s
  | .bool false => b s
  | _ => none
def cBlock (id : Nat) (r : Option (AExit × St)) : Option (AExit × St) := match r with
  | some (.exit i, s1) => if i = id then some (.normal, s1) else some (.exit i, s1)
  | e => e
def cDP (call : Caller) (l : List DOpr) (s : St) : Option (AExit × St) := match preDF l s with
  | some (l', H) => evDrawnF call l' { s with H }
  | none => none
def cStep (call : Caller) (ih : ACode → St → Option (AExit × St)) (c : ACode) (s : St) : Option (AExit × St) :=
  ACode.casesOn (motive := fun _ => Option (AExit × St)) c (some (.normal, s)) (fun l => evOpsF call l s) (fun l => evDrawnF call l s) (fun l => cDP call l s) (fun a b => cSeq (ih a s) (ih b)) (fun x a b => cCond (s.env x) (ih a) (ih b) s) (fun id c => cBlock id (ih c s)) (fun c => cSeq (ih c s) (ih (.loop c))) (fun id => some (.exit id, s)) (some (.ret, s))
def evCF (call : Caller) (n : Nat) : ACode → St → Option (AExit × St) := Nat.rec (motive := fun _ => ACode → St → Option (AExit × St)) (fun _ _ => none) (fun _ ih => cStep call ih) n
def evSF (call : Caller) : ACode → St → Option (AExit × St)
  | .skip, s => some (.normal, s)
  | .ret, s => some (.ret, s)
  | .ops l, s => evOpsF call l s
  | .seq a b, s => match evSF call a s with
    | some (.normal, s1) => evSF call b s1
    | e => e
  | .cond x a b, s => match s.env x with
    | .bool true => evSF call a s
    | .bool false => evSF call b s
    | _ => none
  | .block id c, s => match evSF call c s with
    | some (.exit i, s1) => if i = id then some (.normal, s1) else some (.exit i, s1)
    | e => e
  | .exit id, s => some (.exit id, s)
  | _, _ => none
def leaveF (call : Caller) (code : Nat → Option AFunc) (rs : List ARes) : List (Nat × Array Value) → Option Value → St → Option CR
  | [], none, s => (resultsO s rs).map (.ret · s.H)
  | [], some v, s => some (.pan v s.H)
  | (f, args) :: ds, pm, s => match code f with
    | some fn => if fn.ntmps < args.size then none else match evSF call fn.body { t := enterT 0 args.toList .nil, H := s.H, ds := [], df := true, pm := pm.map fun v => (v, false) } with
      | some (.normal, s1) | some (.ret, s1) => if s1.ds.isEmpty && fn.results.isEmpty then leaveF call code rs ds (match s1.pm with
          | some (v, false) => some v
          | _ => none) { s with H := s1.H } else none
      | _ => none
    | none => none
def evCallF (x : Caller) (code : Nat → Option AFunc) : Nat → Caller
  | 0, _, _, _ => none
  | n + 1, f, args, H => match x f args H with
    | some r => some r
    | none => match code f with
      | some fn => if fn.ntmps < args.size then none else match evCF (evCallF x code n) n fn.body { t := enterT 0 args.toList .nil, H, ds := [], df := false, pm := none } with
        | some (.normal, s) | some (.ret, s) => leaveF (evCallF x code n) code fn.results s.ds none s
        | some (.pan v, s) => leaveF (evCallF x code n) code fn.results s.ds (some v) s
        | _ => none
      | none => none
theorem evOprF_eq (call : Caller) (o : AOpr) (s : St) : evOprF call o s = evOpr call o s := by unfold evOprF evOpr; rw [evOpF_eq]; rfl
theorem evOpsF_eq (call : Caller) : ∀ (l : List AOpr) (s : St), evOpsF call l s = evOps call l s := by
  intro l
  induction l with
  | nil => intro s; rfl
  | cons o r ih =>
    intro s
    have h : evOpsF call (o :: r) s = cSeq (evOprF call o s) (evOpsF call r) := rfl
    rw [h, evOprF_eq]
    unfold cSeq evOps
    split
    · rename_i s1 e; simp only [e]; exact ih s1
    · rename_i x e
      split
      · rename_i s1 e1; exact absurd e1 (e s1)
      · rfl
theorem okAtF_eq (d : DOpr) (r : Rec) (G : Hp) : okAtF d r G = okAt d r G := by unfold okAtF okAt; rw [evOpF_eq]; rfl
theorem stepDF_eq (call : Caller) (i : Nat) (d : DOpr) (x : DSt) : stepDF call i d x = stepD call i d x := by unfold stepDF stepD; rw [evOprF_eq]; rfl
theorem runDF_eq (call : Caller) : ∀ (l : List DOpr) (i : Nat) (x : DSt), runDF call i l x = runD call i l x := by
  intro l
  induction l with
  | nil => intro i x; rfl
  | cons d r ih =>
    intro i x
    unfold runDF runD
    rw [stepDF_eq]
    cases stepD call i d x with
    | none => rfl
    | some x1 => exact ih _ _
theorem checkGF_eq (cs : List (Nat × Nat × NS)) (i : Nat) (B : NS) (d : DOpr) (r : Rec) : ∀ (Gs : List Hp) (m : Nat), checkGF cs i B d r m Gs = checkG cs i B d r m Gs := by
  intro Gs
  induction Gs with
  | nil => intro m; rfl
  | cons G Gs ih => intro m; unfold checkGF checkG; rw [okAtF_eq, ih]
theorem checkHF_eq (cs : List (Nat × Nat × NS)) (Gs : List Hp) : ∀ (l : List DOpr) (rs : List (Option Rec)) (i : Nat), checkHF cs Gs i l rs = checkH cs Gs i l rs := by
  intro l
  induction l with
  | nil => intro rs i; unfold checkHF checkH; rfl
  | cons d l ih =>
    intro rs i
    cases rs with
    | nil => unfold checkHF checkH; rfl
    | cons r rs =>
      unfold checkHF checkH
      rw [ih]
      cases r with
      | none => rfl
      | some r => simp only [checkGF_eq]
theorem checkFF_eq (l : List DOpr) (rs : List (Option Rec)) (Gs : List Hp) : checkFF l rs Gs = checkF l rs Gs := checkHF_eq _ _ _ _ _
theorem evDrawnF_eq (call : Caller) (l : List DOpr) (s : St) : evDrawnF call l s = evDrawn call l s := by
  unfold evDrawnF evDrawn
  rw [runDF_eq]
  cases runD call 0 l { s, Gs := [s.H], rs := [], pan := none } with
  | none => rfl
  | some x => simp only [checkFF_eq]; rfl
theorem preVF_eq (d : DOpr) (s : St) : preVF d s = preV d s := by unfold preVF preV; rw [evOpF_eq]; rfl
theorem preDF_eq : ∀ (l : List DOpr) (s : St), preDF l s = preD l s := by
  intro l
  induction l with
  | nil => intro s; rfl
  | cons d r ih =>
    intro s
    unfold preDF preD
    rw [preVF_eq, evOpF_eq]
    simp only [ih]
    rfl
theorem evCF_eq (call : Caller) : ∀ (n : Nat) (c : ACode) (s : St), evCF call n c s = evC call n c s := by
  intro n
  induction n with
  | zero => intro c s; rfl
  | succ n ih =>
    intro c s
    have h : evCF call (n + 1) c s = cStep call (evCF call n) c s := rfl
    rw [h]
    have ih' : evCF call n = evC call n := by funext c s; exact ih c s
    rw [ih']
    cases c with
    | skip => rfl
    | ops l => exact evOpsF_eq call l s
    | drawn l => exact evDrawnF_eq call l s
    | drawnP l =>
      show cDP call l s = _
      unfold cDP evC
      rw [preDF_eq]
      simp only [evDrawnF_eq]
      rfl
    | seq a b =>
      show cSeq (evC call n a s) (evC call n b) = _
      unfold cSeq
      simp only [evC]
      rfl
    | cond x a b =>
      show cCond (s.env x) (evC call n a) (evC call n b) s = _
      unfold cCond
      simp only [evC]
      rfl
    | block id c =>
      show cBlock id (evC call n c s) = _
      unfold cBlock
      simp only [evC]
      rfl
    | loop c =>
      show cSeq (evC call n c s) (evC call n (.loop c)) = _
      unfold cSeq
      simp only [evC]
      rfl
    | exit id => rfl
    | ret => rfl
theorem evSF_eq (call : Caller) : ∀ (c : ACode) (s : St), evSF call c s = evS call c s := by
  intro c
  induction c with
  | ops l => intro s; exact evOpsF_eq call l s
  | seq a b iha ihb => intro s; unfold evSF evS; rw [iha]; simp only [ihb]; rfl
  | cond x a b iha ihb => intro s; unfold evSF evS; simp only [iha, ihb]; rfl
  | block id c ih => intro s; unfold evSF evS; rw [ih]; rfl
  | _ => intros; rfl
theorem leaveF_eq (call : Caller) (code : Nat → Option AFunc) (rs : List ARes) : ∀ (ds : List (Nat × Array Value)) (pm : Option Value) (s : St), leaveF call code rs ds pm s = leave call code rs ds pm s := by
  intro ds
  induction ds with
  | nil => intro pm s; cases pm <;> rfl
  | cons d ds ih =>
    intro pm s
    obtain ⟨f, args⟩ := d
    unfold leaveF leave
    simp only [evSF_eq, ih]
    rfl
theorem evCallF_eq (x : Caller) (code : Nat → Option AFunc) : ∀ (n : Nat), evCallF x code n = evCall x code n := by
  intro n
  induction n with
  | zero => rfl
  | succ n ih =>
    funext f args H
    unfold evCallF evCall
    simp only [ih, evCF_eq, leaveF_eq]
    rfl
end
end Go.Proofs.YtehbekgmemebjaaDoorEv
