import Derived.Test.YtbjdbpkdkfkpeaaDoorEvU
import Derived.Test.YtbjdbpkdkfkpeaaDoorProg
namespace Go.Proofs.YtbjdbpkdkfkpeaaDoorEv
open Go
set_option maxRecDepth 100000
def a59 : AFunc := ⟨8, [(.tmp 2)], (.seq (.ops [⟨(some 2), (.mv (.const (.slice none 0 0))), none⟩]) (.seq (.seq (.ops [⟨(some 3), (.mv (.tmp 0)), none⟩, ⟨(some 4), (.eq 2 false (.tmp 3) (.const (.slice none 0 0))), none⟩]) (.cond (.tmp 4) (.seq (.ops [⟨(some 2), (.mv (.const (.slice none 0 0))), none⟩]) .ret) .skip)) (.seq (.ops [⟨(some 5), (.bslice 3 #[(.int .i64 (0))] 1 0 #[]), none⟩, ⟨(some 6), (.mv (.tmp 0)), none⟩, ⟨(some 7), (.append 3 1 8 (.tmp 5) (.tmp 6)), none⟩, ⟨(some 2), (.mv (.tmp 7)), none⟩]) .ret)))⟩
theorem a59_eq : compFunc Tryd.prog [0] 59 = some a59 := by kernel_rfl
def a33 : AFunc := ⟨16, [(.tmp 4), (.tmp 5)], (.seq (.ops [⟨(some 4), (.mv (.const (.slice none 0 0))), none⟩, ⟨(some 5), (.mv (.const (.int .i64 (0)))), none⟩]) (.seq (.seq (.ops [⟨(some 7), (.mv (.tmp 0)), none⟩, ⟨(some 8), (.mv (.tmp 1)), none⟩, ⟨(some 9), (.call (.func 48) #[(.tmp 7), (.tmp 8)]), none⟩, ⟨(some 10), (.bin .neq (.tmp 9) (.const (.int .i64 (0)))), none⟩]) (.cond (.tmp 10) (.seq (.ops [⟨(some 4), (.mv (.const (.slice none 0 0))), none⟩, ⟨(some 5), (.mv (.const (.int .i64 (1)))), none⟩]) .ret) .skip)) (.seq (.ops [⟨(some 11), (.mv (.tmp 1)), none⟩, ⟨(some 12), (.call (.func 51) #[(.tmp 11)]), none⟩, ⟨(some 6), (.new 66 [(.int .i64 (0)), (.int .i64 (0)), (.int .i64 (0)), (.int .i64 (0)), (.int .i64 (0)), (.int .i64 (0)), (.int .i64 (0)), (.int .i64 (0))]), none⟩, ⟨none, (.store 8 (.tmp 6) (.tmp 12)), none⟩]) (.seq (.ops [⟨(some 13), (.mv (.tmp 0)), none⟩, ⟨(some 14), (.slcA 8 1 (.tmp 6) none (some (.tmp 13)) none), none⟩, ⟨(some 15), (.call (.func 59) #[(.tmp 14)]), none⟩, ⟨(some 4), (.mv (.tmp 15)), none⟩, ⟨(some 5), (.mv (.const (.int .i64 (0)))), none⟩]) .ret))))⟩
theorem a33_eq : compFunc Tryd.prog [0] 33 = some a33 := by kernel_rfl
end Go.Proofs.YtbjdbpkdkfkpeaaDoorEv
