import Derived.Test.YtehbekgmemebjaaDoorPvWord
namespace Go.Proofs.YtehbekgmemebjaaDoorEv
open Go Go.Proofs.YtehbekgmemebjaaDoor.PAll.H
theorem args1 {H : Hp} {Z : Nat → Prop} {t : Ty} {e : Pe [t]} {vs : List Value} (h : ArgsOK H Z [t] e vs) : ∃ v, vs = [v] ∧ RepV H Z t e.1 v := by
  match vs, h with
  | [v], h => exact ⟨v, rfl, h.1⟩
  | [], h => exact h.elim
  | _ :: _ :: _, h => exact h.2.elim
theorem repv_int {H : Hp} {Z : Nat → Prop} {k : IntKind} {x : Int} {v : Value} : RepV H Z (.int k) x v ↔ v = .int k x := by
  unfold RepV
  simp [Ty.isAgg, Rep]
theorem repv_str {H : Hp} {Z : Nat → Prop} {x : ByteArray} {v : Value} : RepV H Z .str x v ↔ v = .string x := by
  unfold RepV
  simp [Ty.isAgg, Rep]
end Go.Proofs.YtehbekgmemebjaaDoorEv
