import Derived.Test.YtehbekgmemebjaaDoorRows
import Derived.Test.YtehbekgmemebjaaDoorSlZ
import Derived.Test.YtehbekgmemebjaaDoorStSize
import Derived.Test.YtehbekgmemebjaaDoorTie
import Derived.Test.YtehbekgmemebjaaDoorCards
import Derived.WalkKit
import Derived.ProofKit
import Derived.OpenShut
import Derived.ShutString
import Derived.ChangeOld
import Derived.Below
import Derived.SizedLaws
import Derived.LaidMore
import Derived.LaidLaws
import Derived.SevenTiedAt
import Derived.Stop.Joined
namespace Go.Proofs.YtehbekgmemebjaaDoor.ropeSlices
open Go.ChangeShapes Go.WideShapes Go.ChangeAt Go.RowKit Go.Proofs.YtehbekgmemebjaaDoorEv
open Go.ChangeMaps (open_string shut_string)
set_option linter.unusedVariables false
set_option linter.unusedSimpArgs false
theorem own : ownKnob Tryd.prog.godebug = none := by kernel_rfl
theorem laidOut : laidOutB Tryd.prog = true := by kernel_rfl
theorem gLetters : Tryd.prog.globalNamed "cayley/word.letters" = some 0 := by kernel_rfl
theorem tLetters : (Tryd.prog.globals[0]?).map (·.type) = some 106 := by kernel_rfl
theorem door_met (os : Os) (args : Array Value) : laidMetH Tryd.prog Rows.ropeSlicesRow.laid ((World.doorLaid Tryd.prog 400 os).forCall (fun _ _ => 0) ⟨#[], args, []⟩).memory := by
  rw [MakeChecks.laidMetH_plain _ _ _ (by kernel_rfl)]
  exact laidMet_of_run' 8 (by kernel_rfl) (by kernel_rfl)
theorem glob_of {W : World} (h : laidMetH Tryd.prog Rows.ropeSlicesRow.laid W) : Glob W := by
  rw [MakeChecks.laidMetH_plain _ _ _ (by kernel_rfl)] at h
  obtain ⟨ps, ⟨g0, t0, cs0, f0, p0, q0, hg0, ht0, hv0, hd0, _, _⟩, _, _⟩ := h
  obtain rfl := Option.some.inj (gLetters.symm.trans hg0)
  obtain rfl := Option.some.inj (tLetters.symm.trans ht0)
  have hcs : cs0 = #[.int .u8 97, .int .u8 65, .int .u8 98, .int .u8 66, .int .u8 99, .int .u8 67, .int .u8 100, .int .u8 68, .int .u8 101, .int .u8 69, .int .u8 102, .int .u8 70, .int .u8 103, .int .u8 71, .int .u8 104, .int .u8 72] := glob_cells hd0
  subst hcs
  simp only [World.var?, hg0, Option.bind_some] at hv0
  split at hv0
  · rename_i cs t fr hh
    cases hv0
    exact ⟨t, fr, hh⟩
  · cases hv0
set_option maxRecDepth 100000 in
theorem lifted (pure : ∀ e : Pe pc8.args, DensOK pc8.args e → StrSz pc8.args e → ∃ k, F8 k e = some (true, ())) (os : Os) (started : os.Started) (H : Type) (enc : TypeId × Value → H) :
    ReturnsInHanded {} Tryd.checked os 8 .any (fun w args => (Rows.ropeSlicesSpec.pre enc Tryd.prog Tryd.f8 [] false w args ∧ laidMetH Tryd.prog Rows.ropeSlicesRow.laid w) ∧ sizedMet enc Tryd.prog Tryd.f8 (OpenSpec.ofChange Rows.ropeSlicesSpec) false w args) (Rows.ropeSlicesSpec.post enc Tryd.prog Tryd.f8 false true false false) := by
  refine returnsInHanded_of_change_and (C := Tryd.checked) (X := fun w _ => laidMetH Tryd.prog Rows.ropeSlicesRow.laid w) (fun _ _ _ hh h => h.of_heap hh) own started (by kernel_rfl) Tryd.func8
    (ChangeSpec.witness_shaped (enc := enc) (C := Tryd.checked) (os := os) (X := fun w _ => laidMetH Tryd.prog Rows.ropeSlicesRow.laid w) false (World.doorLaid Tryd.prog 400 os) #[.slice none 0 0, .int .i64 0, .int .i64 0, .int .i64 0] 8 rfl (World.shaped_of_RefB (by kernel_rfl) (by kernel_rfl)) (by kernel_rfl) (by kernel_rfl) (by kernel_rfl) (door_met os _)) ?_
  intro W base args ds gs before hval0 hW hcnd hsz0 hL _
  have hval : ∀ (j : Nat) t v, Tryd.f8.params[j]? = some t → args[j]? = some v → Value.okWide Tryd.prog W .any base t v := hval0
  have hW' := hW
  obtain ⟨p, q, hA0, hV, rfl, hfz, hnd⟩ := hW
  have hA : DataW.TrodAll enc Tryd.prog W 0 (fun _ => true) true Tryd.f8.params.toList args.toList ds p := hA0
  rw [Tryd.params8] at hA hval
  have hA2 := hA
  obtain ⟨v0, vs0, d0, ds0, p0, q0, hargs, rfl, rfl, h0, r0⟩ := trodAll_cons hA2
  obtain ⟨v1, vs1, d1, ds1, p1, q1, rfl, rfl, rfl, h1, r1⟩ := trodAll_cons r0
  obtain ⟨v2, vs2, d2, ds2, p2, q2, rfl, rfl, rfl, h2, r2⟩ := trodAll_cons r1
  obtain ⟨v3, vs3, d3, ds3, p3, q3, rfl, rfl, rfl, h3, r3⟩ := trodAll_cons r2
  obtain ⟨rfl, rfl, rfl⟩ := trodAll_nil r3
  obtain ⟨rfl, rfl⟩ := trodVars_none hV
  obtain ⟨ι, hro, hw⟩ := glob_wr (glob_of hL)
  have hsz : (DataW.weightsEach Tryd.prog ([22, 3, 3, 3] ++ []) ([d0, d1, d2, d3] ++ [])).all (· ≤ reachBytes) = true := by
    have h := hsz0
    rw [Tryd.params8] at h
    exact h
  rw [List.append_nil, List.append_nil] at hsz
  have hc := law_callsS (n := 12) KK_ok (f := 8) pc8.ok (params := [22, 3, 3, 3]) (by kernel_rfl) hw hro HLet_GG GG_keep hA (fun j t v h1 h2 => hval j t v (by simpa using h1) (by simpa using h2)) hsz pure
  rw [Array.toArray_toList] at hc
  refine hc.mono fun e W' ⟨he, bel⟩ => ?_
  subst he
  exact ⟨_, rfl, _, _, _, [], _, [], hW', trodAll_mk1 (shut_bool Tryd.underlying4 _), trodAll_back laidOut bel (params := [22, 3, 3, 3]) (by kernel_rfl) hA, rfl, bel.frame _, fun h => by cases h⟩
theorem over (pure : ∀ e : Pe pc8.args, DensOK pc8.args e → StrSz pc8.args e → ∃ k, F8 k e = some (true, ())) : Rows.ropeSlicesRow.holds Tryd.pinned (OpenSpec.ofChange Rows.ropeSlicesSpec) :=
  OpenClaim.holds_of_wide 8 Tryd.f8 rfl rfl rfl rfl rfl rfl rfl ⟨rfl, rfl, rfl, rfl, rfl⟩ rfl rfl rfl rfl rfl (by kernel_rfl) Tryd.func8 (by kernel_rfl)
    (of_decide_eq_true (by kernel_rfl)) (by unfold Func.isWrapper; first | (rw [if_pos (by decide +kernel)]; kernel_rfl) | (rw [if_neg (by decide +kernel)]; exact ⟨rfl, rfl⟩))
    (fun os started H enc _ => lifted pure os started H enc)
theorem card (h : Rows.RopeSlicesSaid) : Rows.RopeSlicesCardSaid :=
  Claim7.holds_tied_plain_at .later [] [.data] true (true, "e5fdd09f8ae01285ac54f15908db64f1f7dcacf1a8da4a0c5a5142bb8f608d97") true
    h (fun _ h => by cases h) (by kernel_rfl) (fun _ h => by cases h) ropeSlices_row_tie rfl ⟨rfl, rfl⟩ (by kernel_rfl) rfl
    (fun f fn hf hfn => by
      obtain rfl : f = 8 := Option.some.inj ((show Tryd.prog.funcNamed "cayley/cayleylaw02.RopeSlices" = some 8 by kernel_rfl).symm.trans hf) |>.symm
      obtain rfl : fn = Tryd.f8 := (Option.some.inj (Tryd.func8.symm.trans hfn)).symm
      exact ⟨by kernel_rfl, fun j t ht => by
        rw [Tryd.params8] at ht
        have hm : t ∈ [22, 3, 3, 3] := by simpa using Array.mem_of_getElem? ht
        have hall : ([22, 3, 3, 3].all fun u => !Tryd.prog.wantsStandIn u) = true := by kernel_rfl
        exact (show Tryd.prog.wantsStandIn t = false by simpa using List.all_eq_true.1 hall t hm)⟩)
    (by kernel_rfl)
end Go.Proofs.YtehbekgmemebjaaDoor.ropeSlices
