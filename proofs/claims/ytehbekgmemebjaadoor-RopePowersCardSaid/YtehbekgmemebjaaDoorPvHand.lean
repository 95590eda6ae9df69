import Derived.Test.YtehbekgmemebjaaDoorPvWord
namespace Go.Proofs.YtehbekgmemebjaaDoorEv
open Go Go.Proofs.YtehbekgmemebjaaDoor.PAll.H
theorem pcok1 {f : Nat} {args : List Ty} {t : Ty} {F : Nat → Pe args → Option (Pe (tys [(t, none)]))}
    (h : ∀ (k : Nat) (H : Hp) (Z : Nat → Prop) (e : Pe args) (vs : List Value), GG H → ArgsOK H Z args e vs → ∀ r, F k e = some r → ∃ v H', KK f vs.toArray H = some (.ret v H') ∧ Kept H H' ∧ ∀ H' Z', RepV H' Z' t r.1 v) : PCok KK GG f args [(t, none)] F := by
  intro k H Z e vs hG hz ha r hr
  obtain ⟨v, H', h1, h2, h3⟩ := h k H Z e vs hG ha r hr
  exact ⟨v, H', Z, [v], h1, h2, fun _ h => h, fun b hb => Nat.lt_of_lt_of_le (hz b hb) h2.1, fun _ h _ => h, rfl, h3 _ _, trivial⟩
theorem args1 {H : Hp} {Z : Nat → Prop} {t : Ty} {e : Pe [t]} {vs : List Value} (h : ArgsOK H Z [t] e vs) : ∃ v, vs = [v] ∧ RepV H Z t e.1 v := by
  match vs, h with
  | [v], h => exact ⟨v, rfl, h.1⟩
  | [], h => exact h.elim
  | _ :: _ :: _, h => exact h.2.elim
theorem args2 {H : Hp} {Z : Nat → Prop} {t u : Ty} {e : Pe [t, u]} {vs : List Value} (h : ArgsOK H Z [t, u] e vs) : ∃ v w, vs = [v, w] ∧ RepV H Z t e.1 v ∧ RepV H Z u e.2.1 w := by
  match vs, h with
  | [v, w], h => exact ⟨v, w, rfl, h.1, h.2.1⟩
  | [], h => exact h.elim
  | [_], h => exact h.2.elim
  | _ :: _ :: _ :: _, h => exact h.2.2.elim
theorem repv_int {H : Hp} {Z : Nat → Prop} {k : IntKind} {x : Int} {v : Value} : RepV H Z (.int k) x v ↔ v = .int k x := by
  unfold RepV
  simp [Ty.isAgg, Rep]
theorem repv_str {H : Hp} {Z : Nat → Prop} {x : ByteArray} {v : Value} : RepV H Z .str x v ↔ v = .string x := by
  unfold RepV
  simp [Ty.isAgg, Rep]
def F41 (_ : Nat) (e : Int × ByteArray × Unit) : Option (Int × Unit) := if (e.1 : Int) = 8 then some (checkS e.2.1, ()) else none
def pc41 : PC KK GG := ⟨41, [.int .i64, .str], [(.int .i64, none)], F41, pcok1 fun k H Z e vs hG ha r hr => by
  obtain ⟨v, w, rfl, hv, hw⟩ := args2 ha
  unfold F41 at hr
  split at hr
  · rename_i h8
    cases hr
    rw [repv_int] at hv
    rw [repv_str] at hw
    subst hv hw
    obtain ⟨H', h1, h2⟩ := K41 e.2.1 H hG
    rw [h8]
    exact ⟨_, H', h1, h2, fun _ _ => repv_int.2 rfl⟩
  · cases hr⟩
end Go.Proofs.YtehbekgmemebjaaDoorEv
