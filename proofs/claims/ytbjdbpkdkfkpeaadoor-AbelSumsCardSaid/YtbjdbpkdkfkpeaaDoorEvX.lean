import Derived.Test.YtbjdbpkdkfkpeaaDoorEvU
namespace Go.Proofs.YtbjdbpkdkfkpeaaDoorEv
open Go
set_option linter.unusedVariables false
set_option linter.unusedSimpArgs false
variable {k : Caller} {s : St} {Q : AExit → St → Prop}
def WS (k : Caller) (c : ACode) (s : St) (Q : AExit → St → Prop) : Prop := ∃ ex s1, evS k c s = some (ex, s1) ∧ Q ex s1
theorem WS.skip (h : Q .normal s) : WS k .skip s Q := ⟨.normal, s, rfl, h⟩
theorem WS.ret (h : Q .ret s) : WS k .ret s Q := ⟨.ret, s, rfl, h⟩
theorem WS.wo {l : List AOpr} (h : WO k l s Q) : WS k (.ops l) s Q := by
  obtain ⟨ex, s1, e, hq⟩ := WO.run l s Q h
  exact ⟨ex, s1, e, hq⟩
theorem WS.seq {a b : ACode} (h : WS k a s fun ex s1 => match ex with
    | .normal => WS k b s1 Q
    | e => Q e s1) : WS k (.seq a b) s Q := by
  obtain ⟨ex, s1, h1, h2⟩ := h
  cases ex with
  | normal =>
    obtain ⟨ex2, s2, h3, h4⟩ := h2
    exact ⟨ex2, s2, by simp only [evS, h1, h3], h4⟩
  | exit i => exact ⟨.exit i, s1, by simp only [evS, h1], h2⟩
  | ret => exact ⟨.ret, s1, by simp only [evS, h1], h2⟩
  | pan v => exact ⟨.pan v, s1, by simp only [evS, h1], h2⟩
theorem WS.ct {x : Operand} {a c : ACode} {b : Bool} (hj : s.env x = .bool b) (hb : b = true) (h : WS k a s Q) : WS k (.cond x a c) s Q := by
  obtain ⟨ex, s1, h1, h2⟩ := h
  exact ⟨ex, s1, by subst hb; simp only [evS, hj]; exact h1, h2⟩
theorem WS.cf {x : Operand} {a c : ACode} {b : Bool} (hj : s.env x = .bool b) (hb : b = false) (h : WS k c s Q) : WS k (.cond x a c) s Q := by
  obtain ⟨ex, s1, h1, h2⟩ := h
  exact ⟨ex, s1, by subst hb; simp only [evS, hj]; exact h1, h2⟩
def St.rcv (s : St) (v : Value) : St := { s with pm := some (v, true) }
theorem rcv_get (s : St) (v : Value) (j : Nat) : (s.rcv v).get j = s.get j := rfl
theorem rcv_H (s : St) (v : Value) : (s.rcv v).H = s.H := rfl
theorem rcv_ds (s : St) (v : Value) : (s.rcv v).ds = s.ds := rfl
theorem rcv_df (s : St) (v : Value) : (s.rcv v).df = s.df := rfl
theorem rcv_pm (s : St) (v : Value) : (s.rcv v).pm = some (v, true) := rfl
def St.dfr (s : St) (f : Nat) (args : Array Value) : St := { s with ds := (f, args) :: s.ds }
theorem dfr_get (s : St) (f : Nat) (args : Array Value) (j : Nat) : (s.dfr f args).get j = s.get j := rfl
theorem dfr_H (s : St) (f : Nat) (args : Array Value) : (s.dfr f args).H = s.H := rfl
theorem dfr_ds (s : St) (f : Nat) (args : Array Value) : (s.dfr f args).ds = (f, args) :: s.ds := rfl
theorem dfr_df (s : St) (f : Nat) (args : Array Value) : (s.dfr f args).df = s.df := rfl
theorem dfr_pm (s : St) (f : Nat) (args : Array Value) : (s.dfr f args).pm = s.pm := rfl
theorem nx_eq (s : St) (H : Hp) (d : Option Nat) (v : Value) : s.nx H d v = { s with H }.put d v := by unfold St.nx; rfl
section
variable {d : Option Nat} {op : AOp} {r : List AOpr}
theorem WO.recover1 {v : Value} (hd : s.df = true) (hp : s.pm = some (v, false)) (h : WO k r ((s.rcv v).nx s.H d v) Q) : WO k (⟨d, .recover, none⟩ :: r) s Q := by
  rw [nx_eq] at h
  unfold WO
  simp only [evOpr, wantedO, if_true, evOp]
  rw [if_pos hd, hp]
  exact h
theorem WO.recover0 (hd : s.df = true) (hp : s.pm = none) (h : WO k r (s.nx s.H d .nilIface) Q) : WO k (⟨d, .recover, none⟩ :: r) s Q := by
  rw [nx_eq] at h
  unfold WO
  simp only [evOpr, wantedO, if_true, evOp]
  rw [if_pos hd, hp]
  exact h
theorem WO.deferd {f : Nat} {args : Array Value} (e : evOp s.env s.H op = some (.defer f args)) (hd : s.df = false) (h : WO k r ((s.dfr f args).nx s.H d undef) Q) : WO k (⟨d, op, none⟩ :: r) s Q := by
  rw [nx_eq] at h
  exact WO.defer e hd h
end
theorem WO.callpn {d : Option Nat} {op : AOp} {r : List AOpr} {f : Nat} {args : Array Value} {v : Value} {H' : Hp} (e : evOp s.env s.H op = some (.call f args)) (c : k f args s.H = some (.pan v H')) (h : Q (.pan v) (s.nx H' none undef)) : WO k (⟨d, op, none⟩ :: r) s Q := by
  rw [nx_eq] at h
  exact WO.callp e c h
theorem WO.callpv {d : Option Nat} {r : List AOpr} {f : Operand} {args : Array Operand} {g : Nat} {fst cap : Array Value} {v : Value} {H' : Hp} (e : s.env f = .func (.func g) fst cap) (c : k g (fst ++ args.map s.env ++ cap) s.H = some (.pan v H')) (h : Q (.pan v) (s.nx H' none undef)) : WO k (⟨d, .call f args, none⟩ :: r) s Q :=
  WO.callpn (by simp only [evOp, e]) c h
theorem WO.defv {d : Option Nat} {r : List AOpr} {f : Operand} {args : Array Operand} {g : Nat} {fst cap : Array Value} (e : s.env f = .func (.func g) fst cap) (hd : s.df = false) (h : WO k r ((s.dfr g (fst ++ args.map s.env ++ cap)).nx s.H d undef) Q) : WO k (⟨d, .defer f args, none⟩ :: r) s Q :=
  WO.deferd (by simp only [evOp, e]) hd h
theorem WS.branch {x : Operand} {a c : ACode} {t : Bool} (e : s.env x = .bool t) (h1 : t = true → WS k a s Q) (h2 : t = false → WS k c s Q) : WS k (.cond x a c) s Q := by
  cases t with
  | true => exact WS.ct e rfl (h1 rfl)
  | false => exact WS.cf e rfl (h2 rfl)
attribute [irreducible] WS St.rcv St.dfr
end Go.Proofs.YtbjdbpkdkfkpeaaDoorEv
