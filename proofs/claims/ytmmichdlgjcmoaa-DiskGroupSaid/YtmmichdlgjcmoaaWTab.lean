import Derived.Test.YtmmichdlgjcmoaaWLast
import Derived.Test.YtmmichdlgjcmoaaWWords
namespace Go.Proofs.YtmmichdlgjcmoaaW.PrintLast
open Go.Proofs.YtmmichdlgjcmoaaW.PrintWords (Aside0)
section
variable {md : Region.Mode} {ops : Array Oper} {T : Bool × List (List Nat × List Nat)} {l l' li lj lk : Array Bool} {ds : List Nat} {i j k : Nat}
end
end Go.Proofs.YtmmichdlgjcmoaaW.PrintLast
