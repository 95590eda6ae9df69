import Derived.Test.YtehbekgmemebjaaDoorPAllx0
import Derived.Test.YtehbekgmemebjaaDoorExtR
namespace Go.Proofs.YtehbekgmemebjaaDoor.PAll
open Go Go.RowKit Go.Proofs.YtehbekgmemebjaaDoorEv Go.Proofs.YtehbekgmemebjaaDoorW.PrintWords Go.Proofs.YtehbekgmemebjaaDoorW.PrintLast Go.Proofs.YtehbekgmemebjaaDoorW.PrintMore H
set_option linter.unusedVariables false
namespace H
def isTrue : Option CR → Bool
  | some (.ret (.bool b) _) => b
  | _ => false
theorem sane_run : isTrue (evCall noX (compFunc Tryd.prog [0]) 60 13 #[] HLet) = true := by kernel_rfl
theorem isTrue_inv {r : Option CR} (h : isTrue r = true) : ∃ H', r = some (.ret (.bool true) H') := by
  unfold isTrue at h
  split at h
  · subst h; exact ⟨_, rfl⟩
  · cases h
end H
def cayleylaw02_sane.f : Option Bool := some true
theorem cayleylaw02_sane.calls (r : Bool) (w : World) (h : cayleylaw02_sane.f = some r) (hG : Glob w := by exact Go.Proofs.YtehbekgmemebjaaDoor.PAll.H.Glob.of HG0.out (by repeat (first | (with_reducible first | exact HB.out | apply below_alloc | apply pw_below_drewN | apply below_drew1) | exact HB.out))) :
    Calls Tryd.prog 13 #[] w fun e w' => e = .returned (.bool r) ∧ Below w.heap.size w w' := by
  obtain rfl : true = r := by simpa [cayleylaw02_sane.f] using h
  obtain ⟨ι, hro, hw⟩ := glob_wr hG
  obtain ⟨H', hr⟩ := isTrue_inv sane_run
  refine ((call_ok (by kernel_rfl) noX_ok CodeOK.comp 60 _ _ _ _ hr).2 ι w #[] hw ⟨rfl, fun j v v' e => by simp at e⟩).mono ?_
  rintro e w' ⟨v', ι2, rfl, hn, hvr, hwr, hf, _⟩
  cases hvr
  exact ⟨rfl, hf.below hro⟩
end Go.Proofs.YtehbekgmemebjaaDoor.PAll
