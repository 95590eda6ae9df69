import Derived.Test.YtehbekgmemebjaaDoorPAllx0
import Derived.Test.YtehbekgmemebjaaDoorEvWord
import Derived.Test.YtehbekgmemebjaaDoorEvMeas
import Derived.Test.YtehbekgmemebjaaDoorEvRef
namespace Go.Proofs.YtehbekgmemebjaaDoor.PAll
open Go Go.RowKit Go.Proofs.YtehbekgmemebjaaDoorEv Go.Proofs.YtehbekgmemebjaaDoorW.PrintWords Go.Proofs.YtehbekgmemebjaaDoorW.PrintLast Go.Proofs.YtehbekgmemebjaaDoorW.PrintMore H
set_option linter.unusedVariables false
set_option linter.unusedSimpArgs false
namespace H
theorem K_ok : CallOK Tryd.prog [0] K := lim_ok (by kernel_rfl) noX_ok CodeOK.comp
def HLet : Hp := (⟨0, .nil⟩ : Hp).new (.cells lettersA ⟨0, 0, false⟩ true)
theorem HLet_let : Let HLet := ⟨by decide, _, _, rfl⟩
theorem HLet_size : HLet.size = 1 := rfl
theorem glob_wr {w : World} (hG : Glob w) : ∃ ι, AllRo ι ∧ WR [0] ι HLet w := by
  obtain ⟨t, fr, hG⟩ := hG
  have h := (WR.empty w).view AllRo.empty (c := 0) (d := 0) (cs := lettersA) hG (by decide) (fun j v hj => ⟨v, by
    have : lettersA.toArray[j]? = some v := by simpa using hj
    simpa [lettersA] using this, by
    have := List.mem_of_getElem? hj
    simp only [lettersA, List.mem_cons, List.not_mem_nil, or_false] at this
    rcases this with rfl | rfl | rfl | rfl | rfl | rfl | rfl | rfl | rfl | rfl | rfl | rfl | rfl | rfl | rfl | rfl <;> exact .int _ _⟩)
  refine ⟨_, AllRo.empty.add rfl, h.globs ?_⟩
  intro g hg
  simp only [List.mem_singleton] at hg
  subst hg
  exact ⟨_, add_same _ _ _, rfl, rfl⟩
theorem vr_tuple2 {ι : Inj} {a b v' : Value} (h : VR ι (.tuple #[a, b]) v') : ∃ a' b', v' = .tuple #[a', b'] ∧ VR ι a a' ∧ VR ι b b' := by
  cases h with
  | tuple _ c hsz hA =>
    obtain ⟨l⟩ := c
    match l, hsz with
    | [x, y], _ => exact ⟨x, y, rfl, hA 0 a x rfl rfl, hA 1 b y rfl rfl⟩
theorem vr_int {ι : Inj} {k : IntKind} {n : Int} {v' : Value} (h : VR ι (.int k n) v') : v' = .int k n := by cases h; rfl
theorem flatMap_ints (l : List Int) : (l.flatMap fun n => [Value.int .i64 n]) = l.map (Value.int .i64) := by
  induction l with
  | nil => rfl
  | cons x r ih => rw [List.flatMap_cons, ih]; rfl
end H
end Go.Proofs.YtehbekgmemebjaaDoor.PAll
namespace Go.Proofs.YtehbekgmemebjaaDoor.PAll
open Go Go.RowKit Go.Proofs.YtehbekgmemebjaaDoorEv Go.Proofs.YtehbekgmemebjaaDoorW.PrintWords Go.Proofs.YtehbekgmemebjaaDoorW.PrintLast Go.Proofs.YtehbekgmemebjaaDoorW.PrintMore H
set_option linter.unusedVariables false
set_option linter.unusedSimpArgs false
namespace H
theorem lens_le {l : List S55} {out : List Int} (h : lens l = some out) : l.length ≤ 4000 := by
  unfold lens at h
  split at h
  · assumption
  · cases h
end H
def rope_measured.f (l0 : List S55) : Option (List Int × Int) := match lens l0 with
  | some out => some (out, 0)
  | none => some ([], 20)
theorem rope_measured.calls (A0 : Option Addr) (c0 : Nat) (l0 : List S55) (r1 : List Int) (r2 : Int) (w : World) (hr0 : Kd.C k55 w A0 l0.length l0) (hc0 : l0.length ≤ c0) (h : rope_measured.f l0 = some (r1, r2)) (hG : Glob w := by exact Go.Proofs.YtehbekgmemebjaaDoor.PAll.H.Glob.of HG0.out (by repeat (first | (with_reducible first | exact HB.out | apply below_alloc | apply pw_below_drewN | apply below_drew1) | exact HB.out))) :
    Calls Tryd.prog 31 #[.slice A0 l0.length c0] w fun e w' => ∃ v0_ : Value, e = .returned (.tuple #[v0_, .int .i64 r2]) ∧ Kd.R (Kd.int .i64) 3 w' w.heap.size (fun _ => True) v0_ r1 ∧ Below w.heap.size w w' := by
  obtain ⟨ι, hro, hw⟩ := glob_wr hG
  obtain ⟨ι', hx, hro', hw', hv⟩ := view_arg fk55 hr0 hc0 hw hro
  have kx := Keep.new HLet (.cells (l0.flatMap enc55) ⟨0, 0, false⟩ true)
  obtain ⟨H', hk, hcase⟩ := K31 (HLet_let.keep kx) (bA := 1) (by rw [Hp.size_new, HLet_size]; omega) (l0 := l0) (u := ⟨0, 0, false⟩) (ro := true) (by rw [Hp.get_new, HLet_size, if_pos rfl])
  have hva : VA ι' #[.slice (some ⟨1, 0, some 2⟩) l0.length l0.length] #[.slice A0 l0.length c0] := ⟨rfl, fun j v v' e e' => by
    cases j with
    | zero => simp at e e'; subst e; subst e'; exact hv
    | succ j => simp at e⟩
  unfold rope_measured.f at h
  rcases hcase with ⟨out, b, a1, a2, a3, a4, a5⟩ | ⟨a1, a2⟩
  · rw [a1] at h
    simp only [Option.some.injEq, Prod.mk.injEq] at h
    obtain ⟨rfl, rfl⟩ := h
    refine (((K_ok _ _ _ _ a2).2 ι' w _ hw' hva)).mono ?_
    rintro e w' ⟨v', ι2, rfl, hn, hvr, hwr, hf, _⟩
    obtain ⟨x, y, rfl, hx1, hy1⟩ := vr_tuple2 hvr
    obtain rfl := vr_int hy1
    refine ⟨x, rfl, ?_, hf.below hro'⟩
    rw [← a4] at hx1
    have h4 := lens_le a1
    refine row_own (FK.int .i64) hro' hn hwr hx1 a3 ?_ (.inl ⟨rfl, ?_, by omega⟩)
    · show List.take (out.length * 1) _ = _
      rw [flatMap_ints, Nat.mul_one]
      exact List.take_of_length_le (by simp)
    · show (out.map (Value.int .i64)).length = out.length * 1
      simp
  · rw [a1] at h
    simp only [Option.some.injEq, Prod.mk.injEq] at h
    obtain ⟨rfl, rfl⟩ := h
    refine (((K_ok _ _ _ _ a2).2 ι' w _ hw' hva)).mono ?_
    rintro e w' ⟨v', ι2, rfl, hn, hvr, hwr, hf, _⟩
    obtain ⟨x, y, rfl, hx1, hy1⟩ := vr_tuple2 hvr
    obtain rfl := vr_int hy1
    refine ⟨x, rfl, ?_, hf.below hro'⟩
    cases hx1
    exact Kd.R_nil _ _ _ _ _
end Go.Proofs.YtehbekgmemebjaaDoor.PAll
namespace Go.Proofs.YtehbekgmemebjaaDoor.PAll
open Go Go.RowKit Go.Proofs.YtehbekgmemebjaaDoorEv Go.Proofs.YtehbekgmemebjaaDoorW.PrintWords Go.Proofs.YtehbekgmemebjaaDoorW.PrintLast Go.Proofs.YtehbekgmemebjaaDoorW.PrintMore H
set_option linter.unusedVariables false
set_option linter.unusedSimpArgs false
def cayleyref02_Lengths.f (l0 : List S55) : Option (List Int × Bool) := if (l0.all fun x => decide (x.f0.size ≤ 9223372036854775807)) = true then (match lens l0 with
  | some out => some (out, true)
  | none => some ([], false)) else none
theorem cayleyref02_Lengths.calls (A0 : Option Addr) (c0 : Nat) (l0 : List S55) (r1 : List Int) (r2 : Bool) (w : World) (hr0 : Kd.C k55 w A0 l0.length l0) (hc0 : l0.length ≤ c0) (h : cayleyref02_Lengths.f l0 = some (r1, r2)) (hG : Glob w := by exact Go.Proofs.YtehbekgmemebjaaDoor.PAll.H.Glob.of HG0.out (by repeat (first | (with_reducible first | exact HB.out | apply below_alloc | apply pw_below_drewN | apply below_drew1) | exact HB.out))) :
    Calls Tryd.prog 35 #[.slice A0 l0.length c0] w fun e w' => ∃ v0_ : Value, e = .returned (.tuple #[v0_, .bool r2]) ∧ Kd.R (Kd.int .i64) 3 w' w.heap.size (fun _ => True) v0_ r1 ∧ Below w.heap.size w w' := by
  obtain ⟨ι, hro, hw⟩ := glob_wr hG
  obtain ⟨ι', hx, hro', hw', hv⟩ := view_arg fk55 hr0 hc0 hw hro
  have kx := Keep.new HLet (.cells (l0.flatMap enc55) ⟨0, 0, false⟩ true)
  unfold cayleyref02_Lengths.f at h
  split at h
  case isFalse => cases h
  rename_i hsz
  have hsz' : ∀ x ∈ l0, x.f0.size ≤ 9223372036854775807 := fun x hx => by
    rw [List.all_eq_true] at hsz
    exact of_decide_eq_true (hsz x hx)
  obtain ⟨H', hk, hcase⟩ := K35 hsz' (bA := 1) (H := HLet.new (.cells (l0.flatMap enc55) ⟨0, 0, false⟩ true)) (by rw [Hp.size_new, HLet_size]; omega) (u := ⟨0, 0, false⟩) (ro := true) (by rw [Hp.get_new, HLet_size, if_pos rfl])
  have hva : VA ι' #[.slice (some ⟨1, 0, some 2⟩) l0.length l0.length] #[.slice A0 l0.length c0] := ⟨rfl, fun j v v' e e' => by
    cases j with
    | zero => simp at e e'; subst e; subst e'; exact hv
    | succ j => simp at e⟩
  have vb : ∀ {ι : Inj} {b : Bool} {v' : Value}, VR ι (.bool b) v' → v' = .bool b := fun h => by cases h; rfl
  rcases hcase with ⟨out, v, a1, a2, a3, a4, a5⟩ | ⟨a1, a2⟩
  · rw [a1] at h
    simp only [Option.some.injEq, Prod.mk.injEq] at h
    obtain ⟨rfl, rfl⟩ := h
    refine (((K_ok _ _ _ _ a2).2 ι' w _ hw' hva)).mono ?_
    rintro e w' ⟨v', ι2, rfl, hn, hvr, hwr, hf, _⟩
    obtain ⟨x, y, rfl, hx1, hy1⟩ := vr_tuple2 hvr
    obtain rfl := vb hy1
    refine ⟨x, rfl, ?_, hf.below hro'⟩
    rcases a3 with ⟨rfl, rfl⟩ | ⟨b, _, _, rfl, hg⟩
    · cases hx1
      exact Kd.R_nil _ _ _ _ _
    · refine row_own (FK.int .i64) hro' hn hwr hx1 hg ?_ (.inr rfl)
      show List.take (out.length * 1) _ = _
      rw [flatMap_ints, Nat.mul_one]
      exact List.take_of_length_le (by simp)
  · rw [a1] at h
    simp only [Option.some.injEq, Prod.mk.injEq] at h
    obtain ⟨rfl, rfl⟩ := h
    refine (((K_ok _ _ _ _ a2).2 ι' w _ hw' hva)).mono ?_
    rintro e w' ⟨v', ι2, rfl, hn, hvr, hwr, hf, _⟩
    obtain ⟨x, y, rfl, hx1, hy1⟩ := vr_tuple2 hvr
    obtain rfl := vb hy1
    refine ⟨x, rfl, ?_, hf.below hro'⟩
    cases hx1
    exact Kd.R_nil _ _ _ _ _
end Go.Proofs.YtehbekgmemebjaaDoor.PAll
