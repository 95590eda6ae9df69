import Derived.Test.YtmmichdlgjcmoaaPAllx0
import Derived.Test.YtmmichdlgjcmoaaOpen
namespace Go.Proofs.Ytmmichdlgjcmoaa.PAll
open Go.RowKit Go.Proofs.YtmmichdlgjcmoaaW.PrintWords Go.Proofs.YtmmichdlgjcmoaaW.PrintLast Go.Proofs.YtmmichdlgjcmoaaW.PrintMore Go.Proofs.YtmmichdlgjcmoaaOpen
theorem opens59 : Opens Try.prog 59 k59 (fun c => c.f0.size ≤ maxLen) :=
  opens_imp (opens_struct Try.underlying59 (fun x : S59 => (x.f0, x.f1, x.f2)) (fun b => ⟨b.1, b.2.1, b.2.2⟩) (fun _ => rfl)
    (tail_cons _ rfl rfl (by kernel_rfl) rfl (opens_string Try.underlying9) (tail_cons _ rfl rfl (by kernel_rfl) rfl (opens_int Try.underlying3) (tail_last _ rfl rfl (by kernel_rfl) (opens_bool Try.underlying4))))) (fun _ h => h.1)
theorem opens24 : Opens Try.prog 24 k24 (fun _ => True) :=
  opens_imp (opens_struct Try.underlying24 (fun x : S24 => (x.f0, x.f1)) (fun b => ⟨b.1, b.2⟩) (fun _ => rfl)
    (tail_cons _ rfl rfl (by kernel_rfl) rfl (opens_int Try.underlying3) (tail_last _ rfl rfl (by kernel_rfl) (opens_slice Try.underlying22 (by kernel_rfl) (opens_string Try.underlying9))))) (fun _ _ => trivial)
theorem opens52 : Opens Try.prog 52 k52 (fun _ => True) :=
  opens_imp (opens_struct Try.underlying52 (fun x : S52 => (x.f0, x.f1, x.f2, x.f3, x.f4, x.f5)) (fun b => ⟨b.1, b.2.1, b.2.2.1, b.2.2.2.1, b.2.2.2.2.1, b.2.2.2.2.2⟩) (fun _ => rfl)
    (tail_cons _ rfl rfl (by kernel_rfl) rfl (opens_int Try.underlying3) (tail_cons _ rfl rfl (by kernel_rfl) rfl (opens_int Try.underlying3) (tail_cons _ rfl rfl (by kernel_rfl) rfl (opens_int Try.underlying3) (tail_cons _ rfl rfl (by kernel_rfl) rfl (opens_int Try.underlying3) (tail_cons _ rfl rfl (by kernel_rfl) rfl (opens_int Try.underlying3) (tail_last _ rfl rfl (by kernel_rfl) (opens_bool Try.underlying4)))))))) (fun _ _ => trivial)
end Go.Proofs.Ytmmichdlgjcmoaa.PAll
