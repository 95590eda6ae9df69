import Derived.Test.YtehbekgmemebjaaDoorPAllx0
import Derived.Test.YtehbekgmemebjaaDoorPAllx10
import Derived.Test.YtehbekgmemebjaaDoorRowRopeConcats
import Derived.Test.YtehbekgmemebjaaDoorPureC
namespace Go.Proofs.YtehbekgmemebjaaDoor
open Go.Proofs.YtehbekgmemebjaaDoorW.PrintWords Go.Proofs.YtehbekgmemebjaaDoor.PAll Go.Proofs.YtehbekgmemebjaaDoor.PAll.H
theorem ropeConcats_holds : Rows.RopeConcatsCardSaid :=
  ropeConcats.card (ropeConcats.over fun A0 c0 a A1 c1 b i w ha hc0 za hb hc1 zb hi hG => by
    have sa : Short a := fun x hx => Nat.le_trans (za x hx) (by decide)
    have sb : Short b := fun x hx => Nat.le_trans (zb x hx) (by decide)
    obtain ⟨k, hk⟩ := (law_concats sa sb i).rounds
    exact cayleylaw02_RopeConcats.calls k A0 c0 a A1 c1 b i true w ha hc0 hb hc1 hk hG)
#print axioms ropeConcats_holds
end Go.Proofs.YtehbekgmemebjaaDoor
