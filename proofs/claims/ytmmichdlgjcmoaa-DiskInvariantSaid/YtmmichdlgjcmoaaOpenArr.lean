import Derived.Test.YtmmichdlgjcmoaaOpen
import Derived.OpenShut
namespace Go.Proofs.YtmmichdlgjcmoaaOpen
open Go.RowKit Go.Proofs.YtmmichdlgjcmoaaW.PrintWords Go.Proofs.YtmmichdlgjcmoaaW.PrintLast Go.Proofs.YtmmichdlgjcmoaaW.PrintMore
theorem okWide_arr {P : Program} {w : World} {r : Reach} {base n : Nat} {t e : TypeId} {v : Value} (ht : P.underlying t = some (.array n e)) (h : Value.okWide P w r base t v) : ∃ cs, v = .agg cs ∧ cs.size = P.cellsOf t := by
  unfold Value.okWide at h
  rw [ht] at h
  obtain ⟨cs, h1, h2, _⟩ := h
  exact ⟨cs, h1, h2⟩
theorem opens_arr8 {P : Program} {t e : TypeId} (ht : P.underlying t = some (.array 8 e)) (he : P.underlying e = some (.int .i64)) (hc : P.cellsOf e = 1) (hs : P.cellsOf t = 8)
    {H : Type} {enc : TypeId × Value → H} {w : World} {base : Nat} {spare : Nat → Bool} {held : Bool} {fuel : Nat} {cs : List Value} {x : DataW H × List MemPlace} (h : DataW.trod enc P w base spare held fuel t cs = some x) :
    ∃ y0 y1 y2 y3 y4 y5 y6 y7 : Int, cs = [.int .i64 y0, .int .i64 y1, .int .i64 y2, .int .i64 y3, .int .i64 y4, .int .i64 y5, .int .i64 y6, .int .i64 y7] := by
  obtain ⟨xs, m, _, _, hl, hxl, hel⟩ := DataW.trod_array ht h
  rw [hs] at hl
  have hat : ∀ i, i < 8 → ∃ y : Int, cs[i]? = some (.int .i64 y) := fun i hi => by
    have h1 := hel i hi
    rw [hc, Nat.mul_one, List.getElem?_eq_getElem (by omega)] at h1
    obtain ⟨n, h2, _, _⟩ := DataW.trod_int he h1
    refine ⟨n, ?_⟩
    have h3 : ((cs.drop i).take 1)[0]? = some (.int .i64 n) := by rw [h2]; rfl
    simpa using h3
  obtain ⟨y0, e0⟩ := hat 0 (by omega)
  obtain ⟨y1, e1⟩ := hat 1 (by omega)
  obtain ⟨y2, e2⟩ := hat 2 (by omega)
  obtain ⟨y3, e3⟩ := hat 3 (by omega)
  obtain ⟨y4, e4⟩ := hat 4 (by omega)
  obtain ⟨y5, e5⟩ := hat 5 (by omega)
  obtain ⟨y6, e6⟩ := hat 6 (by omega)
  obtain ⟨y7, e7⟩ := hat 7 (by omega)
  refine ⟨y0, y1, y2, y3, y4, y5, y6, y7, ?_⟩
  apply List.ext_getElem?
  intro i
  match i with
  | 0 => exact e0
  | 1 => exact e1
  | 2 => exact e2
  | 3 => exact e3
  | 4 => exact e4
  | 5 => exact e5
  | 6 => exact e6
  | 7 => exact e7
  | k + 8 => rw [List.getElem?_eq_none (by omega), List.getElem?_eq_none (by simp)]
end Go.Proofs.YtmmichdlgjcmoaaOpen
