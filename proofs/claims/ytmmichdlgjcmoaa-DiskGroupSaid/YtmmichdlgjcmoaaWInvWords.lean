import Derived.Test.YtmmichdlgjcmoaaWInv
import Derived.Test.YtmmichdlgjcmoaaWFootNe
namespace Go.Proofs.YtmmichdlgjcmoaaW.PrintWords
open Go.RowKit
end Go.Proofs.YtmmichdlgjcmoaaW.PrintWords
namespace Go.Proofs.YtmmichdlgjcmoaaW.PrintLast
section
variable {ops : Array Oper} {a : Act} {o og : Oper} {g : Nat} {t : Tmp} {u : Bool}
end
end Go.Proofs.YtmmichdlgjcmoaaW.PrintLast
