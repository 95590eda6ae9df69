import Derived.Test.YtmmichdlgjcmoaaPAllx0
import Derived.OpenShut
import Derived.Test.YtmmichdlgjcmoaaPAllx3
import Derived.Test.YtmmichdlgjcmoaaPAllx8
import Derived.Test.YtmmichdlgjcmoaaPAllx6
import Derived.Test.YtmmichdlgjcmoaaPAllx7
import Derived.Test.YtmmichdlgjcmoaaExtA
import Derived.Test.YtmmichdlgjcmoaaPAllx2
import Derived.Test.YtmmichdlgjcmoaaPureB
import Derived.Deep.DeepMust
import Derived.Deep.RegionHeld3
import Derived.Test.YtmmichdlgjcmoaaPureE
namespace Go.Proofs.Ytmmichdlgjcmoaa.PAll
open Go.RowKit Go.Proofs.YtmmichdlgjcmoaaW.PrintWords Go.Proofs.YtmmichdlgjcmoaaW.PrintLast Go.Proofs.YtmmichdlgjcmoaaW.PrintMore H
set_option linter.unusedVariables false
set_option linter.unusedSimpArgs false
namespace H
theorem redL_red (ls : List ByteArray) : redL ls = red (ls.flatMap bytesOf) := by
  suffices h : ∀ (ls : List ByteArray) (out : List Int), ls.foldl (fun out s => (bytesOf s).foldl (pushW canc) out) out = act out (ls.flatMap bytesOf) from h ls []
  intro ls
  induction ls with
  | nil => intro out; rfl
  | cons s ls ih => intro out; rw [List.foldl_cons, ih, List.flatMap_cons, act_append]; rfl
def cellL (rels : List ByteArray) (c : S59) : List Int := bytesOf c.f0 ++ (bytesOf (sideS rels c.f1 c.f2) ++ bytesOf (invS c.f0))
def diskL (rels : List ByteArray) (d : List S59) : List Int := d.flatMap (cellL rels)
theorem boundL_red (rels : List ByteArray) (d : List S59) : boundL rels d = red (diskL rels d) := by
  unfold boundL
  rw [redL_red]
  congr 1
  induction d with
  | nil => rfl
  | cons c d ih => rw [List.flatMap_cons, List.flatMap_append, ih]; simp [diskL, cellW, cellL]
theorem diskL_cons (rels : List ByteArray) (c : S59) (d : List S59) : diskL rels (c :: d) = cellL rels c ++ diskL rels d := by simp [diskL]
def CellL (rels : List ByteArray) (c : S59) : Prop := 0 ≤ c.f1 ∧ c.f1 < rels.length ∧ allL (bytesOf c.f0)
theorem cellL_L {rels : List ByteArray} (hr : relsL rels) {c : S59} (h : CellL rels c) : allL (cellL rels c) :=
  allL_app h.2.2 (allL_app (sideS_L hr c.f2 h.1 h.2.1).2 (by rw [bytesOf_invS h.2.2]; exact allL_inv h.2.2))
theorem diskL_L {rels : List ByteArray} (hr : relsL rels) {d : List S59} (h : ∀ c ∈ d, CellL rels c) : allL (diskL rels d) := by
  intro x hx
  obtain ⟨c, hc, hx⟩ := List.mem_flatMap.1 hx
  exact cellL_L hr (h c hc) x hx
theorem DiskOk.L {rels : List ByteArray} {d : List S59} (h : DiskOk rels d) : ∀ c ∈ d, CellL rels c := fun c hc => ⟨(h.cell c hc).1, (h.cell c hc).2.1, (h.cell c hc).2.2.2⟩
theorem boundL_L {rels : List ByteArray} {d : List S59} (h : DiskOk rels d) : allL (boundL rels d) := by
  rw [boundL_red]; exact (red_redu (diskL_L h.rl h.L)).isL
theorem bytesOf_bound {rels : List ByteArray} {d : List S59} (h : DiskOk rels d) : bytesOf (strOfNums (boundL rels d)) = boundL rels d := bytesOf_strOf (allL_range (boundL_L h))
theorem bound_size {rels : List ByteArray} {d : List S59} (h : DiskOk rels d) : (strOfNums (boundL rels d)).size ≤ 100000000 := by
  have h1 := (boundB_ok.1 (diskOk_bound h)).2
  have h2 : (boundL rels d).length ≤ sizes (d.flatMap (cellW rels)) := redL_len _
  rw [strOfNums_size]; omega
theorem side_neg {rels : List ByteArray} (hr : relsL rels) {rel : Int} (b : Bool) (h0 : 0 ≤ rel) (h1 : rel < rels.length) : bytesOf (sideS rels rel (!b)) = invL (bytesOf (sideS rels rel b)) := by
  have h := (hr _ (rdOf_mem h0 h1)).2
  unfold sideS
  cases b with
  | false => simp only [Bool.not_false, if_true, Bool.false_eq_true, if_false]; exact bytesOf_invS h
  | true => simp only [Bool.not_true, Bool.false_eq_true, if_false, if_true]; rw [bytesOf_invS h, invL_inv h]
theorem redL_two (u v : ByteArray) : redL [u, v] = red (bytesOf u ++ bytesOf v) := by rw [redL_red]; simp
theorem toList_inj {a b : ByteArray} (h : a.toList = b.toList) : a = b := by
  rw [ByteArray.toList_eq, ByteArray.toList_eq] at h
  exact ByteArray.ext (Array.ext' h)
end H
end Go.Proofs.Ytmmichdlgjcmoaa.PAll
