import Derived.Test.YtehbekgmemebjaaDoorPAllx0
import Derived.Test.YtehbekgmemebjaaDoorOpen
import Derived.Test.YtehbekgmemebjaaDoorExtK
import Derived.OpenShut
import Derived.Test.YtehbekgmemebjaaDoorRows
namespace Go.Proofs.YtehbekgmemebjaaDoor.PAll
open Go.RowKit Go.Proofs.YtehbekgmemebjaaDoorW.PrintWords Go.Proofs.YtehbekgmemebjaaDoorW.PrintLast Go.Proofs.YtehbekgmemebjaaDoorW.PrintMore Go.Proofs.YtehbekgmemebjaaDoorOpen
theorem opens55 : Opens Tryd.prog 55 k55 (fun c => c.f0.size ≤ maxLen) :=
  opens_imp (opens_struct Tryd.underlying55 (fun x : S55 => (x.f0, x.f1, x.f2, x.f3)) (fun b => ⟨b.1, b.2.1, b.2.2.1, b.2.2.2⟩) (fun _ => rfl)
    (tail_cons _ rfl rfl (by kernel_rfl) rfl (opens_string Tryd.underlying9) (tail_cons _ rfl rfl (by kernel_rfl) rfl (opens_int Tryd.underlying3) (tail_cons _ rfl rfl (by kernel_rfl) rfl (opens_int Tryd.underlying3) (tail_last _ rfl rfl (by kernel_rfl) (opens_int Tryd.underlying3)))))) (fun _ h => h.1)
theorem glob_cells {w : World} {fuel : Nat} {cs : Array Value} {p : List MemPlace} (hd : DataW.trod (fun _ => ()) Tryd.prog w 0 (fun _ => true) false fuel 106 cs.toList = some (Rows.laid_cayley_word_letters, p)) :
    cs = #[.int .u8 97, .int .u8 65, .int .u8 98, .int .u8 66, .int .u8 99, .int .u8 67, .int .u8 100, .int .u8 68, .int .u8 101, .int .u8 69, .int .u8 102, .int .u8 70, .int .u8 103, .int .u8 71, .int .u8 104, .int .u8 72] := by
  obtain ⟨xs, m, e, hx, hl, hn, hel⟩ := DataW.trod_array Tryd.underlying106 hd
  have c5 : Tryd.prog.cellsOf 5 = 1 := by kernel_rfl
  have c106 : Tryd.prog.cellsOf 106 = 16 := by kernel_rfl
  rw [c106] at hl
  simp only [Prod.mk.injEq, Rows.laid_cayley_word_letters, DataW.agg.injEq] at hx
  have hlx : xs.length = 16 := hn
  apply Array.toList_inj.1
  apply List.ext_getElem?
  intro i
  by_cases hi : i < 16
  · have h1 := hel i hi
    rw [c5] at h1
    have hx1 : xs[i]? = some (xs[i]'(by omega)) := List.getElem?_eq_getElem (by omega)
    rw [hx1] at h1
    obtain ⟨k, e1, e2, _⟩ := DataW.trod_int Tryd.underlying5 h1
    have e3 : cs.toList[i]? = some (.int .u8 k) := by
      have := congrArg (fun l => l[0]?) e1
      simpa [List.getElem?_take, List.getElem?_drop] using this
    rw [e3]
    have e4 : (xs.map (·.1))[i]? = some (.lit (.int .u8 k)) := by rw [List.getElem?_map, hx1, e2]; rfl
    rw [← hx.1] at e4
    have h16 : i = 0 ∨ i = 1 ∨ i = 2 ∨ i = 3 ∨ i = 4 ∨ i = 5 ∨ i = 6 ∨ i = 7 ∨ i = 8 ∨ i = 9 ∨ i = 10 ∨ i = 11 ∨ i = 12 ∨ i = 13 ∨ i = 14 ∨ i = 15 := by omega
    rcases h16 with rfl | rfl | rfl | rfl | rfl | rfl | rfl | rfl | rfl | rfl | rfl | rfl | rfl | rfl | rfl | rfl <;>
    · have e5 := DataW.lit.inj (Option.some.inj e4)
      cases e5
      rfl
  · rw [List.getElem?_eq_none (by omega), List.getElem?_eq_none (by simp; omega)]
end Go.Proofs.YtehbekgmemebjaaDoor.PAll
