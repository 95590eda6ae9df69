import Derived.Test.YtehbekgmemebjaaDoorEvWord
namespace Go.Proofs.YtehbekgmemebjaaDoorEv
open Go
set_option linter.unusedVariables false
set_option linter.unusedSimpArgs false
def OutS (H Hc : Hp) (v : Value) (done : List Int) : Prop := (v = .slice none 0 0 ∧ done = []) ∨ ∃ b, H.size ≤ b ∧ b < Hc.size ∧ v = .slice (some ⟨b, 0, none⟩) done.length done.length ∧ Hc.get b = some (.cells (done.map (Value.int .i64)) ⟨1, 3, true⟩ false)
theorem OutS.keep {H Hc Hd : Hp} {v : Value} {done : List Int} (h : OutS H Hc v done) (hk : Keep Hc Hd) : OutS H Hd v done := by
  rcases h with h | ⟨b, h1, h2, h3, h4⟩
  · exact .inl h
  · exact .inr ⟨b, h1, by have := hk.1; omega, h3, (hk.2 b h2).trans h4⟩
theorem append_one {H Hc : Hp} {v : Value} {done : List Int} {c : Nat} {x : Int} {uu : UT} (h : OutS H Hc v done) (hk : Keep H Hc) (hc : Hc.get c = some (.cells [.int .i64 x] uu false)) (hl : done.length ≤ 4000) :
    ∃ H', appendO Hc 3 1 8 v (.slice (some ⟨c, 0, none⟩) 1 1) = some (.slice (some ⟨Hc.size, 0, none⟩) (done.length + 1) (done.length + 1), H') ∧ Keep H H' ∧ OutS H H' (.slice (some ⟨Hc.size, 0, none⟩) (done.length + 1) (done.length + 1)) (done ++ [x]) ∧ H'.size = Hc.size + 1 ∧ (∀ b, b < Hc.size → (∀ n, v ≠ .slice (some ⟨b, 0, none⟩) n n) → H'.get b = Hc.get b) := by
  have hs : sliceCells Hc 1 (.slice (some ⟨c, 0, none⟩) 1 1) = some [.int .i64 x] := by
    simp only [sliceCells, hc]
    simp
  have hi : ([Value.int .i64 x].all isCell) = true := by simp [isCell]
  rcases h with ⟨rfl, rfl⟩ | ⟨b, h1, h2, rfl, h4⟩
  · refine ⟨Hc.new (.cells [.int .i64 x] ⟨1, 3, true⟩ false), ?_, hk.trans (Keep.new _ _), .inr ⟨Hc.size, hk.1, by rw [Hp.size_new]; omega, by simp, by rw [Hp.get_new, if_pos rfl]; rfl⟩, Hp.size_new _ _, fun b hb _ => by rw [Hp.get_new, if_neg (by omega)]⟩
    have hh : sliceCells Hc 1 (.slice none 0 0) = some [] := rfl
    simp only [appendO, lenO, hs, hi, killO, zO, hh, Option.bind_eq_bind, Option.bind_some]
    simp
  · have ho : sliceCells Hc 1 (.slice (some ⟨b, 0, none⟩) done.length done.length) = some (done.map (Value.int .i64)) := by
      simp only [sliceCells, h4]
      by_cases h0 : done.length = 0
      · have : done = [] := List.eq_nil_of_length_eq_zero h0
        subst this; simp
      · rw [if_neg h0]
        simp
        exact List.take_of_length_le (by simp)
    refine ⟨(Hc.put b .dead).new (.cells (done.map (Value.int .i64) ++ [.int .i64 x]) ⟨1, 3, true⟩ false), ?_, (hk.put h1 _).trans (Keep.new _ _), .inr ⟨Hc.size, hk.1, by rw [Hp.size_new, Hp.size_put]; omega, by simp, by rw [Hp.get_new, Hp.size_put, if_pos rfl]; simp⟩, by rw [Hp.size_new, Hp.size_put], fun y hy hv => by
      rw [Hp.get_new, Hp.size_put, if_neg (by omega), Hp.get_put, if_neg (by rintro rfl; exact hv _ rfl)]⟩
    have e1 : ¬ (done.length + 1 ≤ done.length) := by omega
    have e2 : ¬ ((done.length + 1) * 8 > 35184372088832) := by omega
    simp only [appendO, lenO, hs, hi, killO, zO, ho, h4, Option.bind_eq_bind, Option.bind_some, e1, if_false, e2]
    simp
end Go.Proofs.YtehbekgmemebjaaDoorEv
