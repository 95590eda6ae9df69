import Derived.Test.YtmmichdlgjcmoaaRows
import Derived.Test.YtmmichdlgjcmoaaKinds
import Derived.Test.YtmmichdlgjcmoaaOpenArr
import Derived.WalkKit
import Derived.ProofKit
import Derived.OpenShut
import Derived.ShutString
import Derived.ChangeOld
import Derived.Below
import Derived.SizedLaws
namespace Go.Proofs.Ytmmichdlgjcmoaa.diskInvariant
open Go.ChangeShapes Go.WideShapes Go.ChangeAt Go.RowKit
open Go.ChangeMaps (open_string shut_string)
open Go.Proofs.YtmmichdlgjcmoaaW.PrintWords Go.Proofs.YtmmichdlgjcmoaaW.PrintLast Go.Proofs.YtmmichdlgjcmoaaW.PrintMore Go.Proofs.YtmmichdlgjcmoaaOpen Go.Proofs.Ytmmichdlgjcmoaa.PAll
set_option linter.unusedVariables false
set_option linter.unusedSimpArgs false
theorem own : ownKnob Try.prog.godebug = none := by kernel_rfl
theorem laidOut : laidOutB Try.prog = true := by kernel_rfl
set_option maxRecDepth 100000 in
theorem lifted (walk : ∀ (x0_0 : Int) (A0_1 : Option Addr) (c0_1 : Nat) (x0_1 : List (ByteArray)) (x1_0 x1_1 x1_2 x1_3 x1_4 x1_5 x1_6 x1_7 : Int) (A2 : Option Addr) (c2 : Nat) (x2 : List (S59)) (x3 : ByteArray) (A4 : Option Addr) (c4 : Nat) (x4 : List (S52)) (w : World), Kd.C Kd.string w A0_1 x0_1.length x0_1 → x0_1.length ≤ c0_1 → Kd.C k59 w A2 x2.length x2 → x2.length ≤ c2 → (∀ z ∈ x2, z.f0.size ≤ maxLen) → x3.size ≤ maxLen → Kd.C k52 w A4 x4.length x4 → x4.length ≤ c4 → Calls Try.prog 6 #[.agg #[.int .i64 x0_0, .slice A0_1 x0_1.length c0_1], .agg #[.int .i64 x1_0, .int .i64 x1_1, .int .i64 x1_2, .int .i64 x1_3, .int .i64 x1_4, .int .i64 x1_5, .int .i64 x1_6, .int .i64 x1_7], .slice A2 x2.length c2, .string x3, .slice A4 x4.length c4] w fun e w' => e = .returned (.bool true) ∧ Below w.heap.size w w')
    (os : Os) (started : os.Started) (H : Type) (enc : TypeId × Value → H) :
    ReturnsInHanded {} Try.checked os 6 .any (Rows.diskInvariantSpec.pre6 enc Try.prog Try.f6 Rows.diskInvariantRow.domain false) (Rows.diskInvariantSpec.post enc Try.prog Try.f6 false true false false) := by
  refine returnsInHanded_of_change_sized (C := Try.checked) own started (by kernel_rfl) Try.func6
    (ChangeSpec.witness6 (enc := enc) (C := Try.checked) false ⟨#[], #[.agg #[.int .i64 0, .slice none 0 0], .agg #[.int .i64 0, .int .i64 0, .int .i64 0, .int .i64 0, .int .i64 0, .int .i64 0, .int .i64 0, .int .i64 0], .slice none 0 0, .string ByteArray.empty, .slice none 0 0], []⟩ 8 (by kernel_rfl) (by kernel_rfl) (by kernel_rfl) (by kernel_rfl)) ?_
  intro W base args ds gs before hval0 hW hcnd hsz0 _
  have hval : ∀ (j : Nat) t v, Try.f6.params[j]? = some t → args[j]? = some v → Value.okWide Try.prog W .any base t v := hval0
  have hW' := hW
  obtain ⟨p, q, hA0, hV, rfl, hfz, hnd⟩ := hW
  have hA : DataW.TrodAll enc Try.prog W 0 (fun _ => true) true Try.f6.params.toList args.toList ds p := hA0
  rw [Try.params6] at hA hval
  obtain ⟨v0, vs0, d0, ds0, p0, q0, hargs, rfl, rfl, h0, r0⟩ := trodAll_cons hA
  obtain ⟨v1, vs1, d1, ds1, p1, q1, rfl, rfl, rfl, h1, r1⟩ := trodAll_cons r0
  obtain ⟨v2, vs2, d2, ds2, p2, q2, rfl, rfl, rfl, h2, r2⟩ := trodAll_cons r1
  obtain ⟨v3, vs3, d3, ds3, p3, q3, rfl, rfl, rfl, h3, r3⟩ := trodAll_cons r2
  obtain ⟨v4, vs4, d4, ds4, p4, q4, rfl, rfl, rfl, h4, r4⟩ := trodAll_cons r3
  obtain ⟨rfl, rfl, rfl⟩ := trodAll_nil r4
  obtain rfl : args = #[v0, v1, v2, v3, v4] := by cases args; simp_all
  obtain ⟨rfl, rfl⟩ := trodVars_none hV
  obtain ⟨cs0, rfl, hcs0⟩ := okWide_struct Try.underlying24 (hval 0 24 v0 rfl rfl)
  have lt0 : ∀ x ∈ p0, x.block < W.heap.size := by obtain ⟨m, hm⟩ := h0; exact DataW.trod_lt m _ _ _ hm
  obtain ⟨s0, k0, z0⟩ : ∃ s : S24, k24.K W s cs0.toList ∧ True := by
    obtain ⟨f, hf⟩ := h0
    exact opens24.out hf
  obtain ⟨A0_1, c0_1, e0, l0_1, g0_1⟩ := k24_open k0
  obtain rfl : cs0 = #[.int .i64 s0.f0, .slice A0_1 s0.f1.length c0_1] := by cases cs0; simp_all
  obtain ⟨cs1, rfl, hcs1⟩ := okWide_arr Try.underlying39 (hval 1 39 v1 rfl rfl)
  have lt1 : ∀ x ∈ p1, x.block < W.heap.size := by obtain ⟨m, hm⟩ := h1; exact DataW.trod_lt m _ _ _ hm
  obtain ⟨x1_0, x1_1, x1_2, x1_3, x1_4, x1_5, x1_6, x1_7, e1⟩ : ∃ x1_0 x1_1 x1_2 x1_3 x1_4 x1_5 x1_6 x1_7 : Int, cs1.toList = [.int .i64 x1_0, .int .i64 x1_1, .int .i64 x1_2, .int .i64 x1_3, .int .i64 x1_4, .int .i64 x1_5, .int .i64 x1_6, .int .i64 x1_7] := by
    obtain ⟨f, hf⟩ := h1
    exact opens_arr8 Try.underlying39 Try.underlying3 (by kernel_rfl) (by kernel_rfl) hf
  obtain rfl : cs1 = #[.int .i64 x1_0, .int .i64 x1_1, .int .i64 x1_2, .int .i64 x1_3, .int .i64 x1_4, .int .i64 x1_5, .int .i64 x1_6, .int .i64 x1_7] := by cases cs1; simp_all
  obtain ⟨a2, len2, cap2, rfl⟩ := okWide_slice Try.underlying25 (hval 2 25 v2 rfl rfl)
  have lt2 : ∀ x ∈ p2, x.block < W.heap.size := by obtain ⟨m, hm⟩ := h2; exact DataW.trod_lt m _ _ _ hm
  obtain ⟨x2, k2, z2⟩ : ∃ x : List (S59), (Kd.slice 59 k59).K W x [.slice a2 len2 cap2] ∧ ∀ z ∈ x, z.f0.size ≤ maxLen := by
    obtain ⟨f, hf⟩ := h2
    exact (opens_slice Try.underlying25 (by kernel_rfl) opens59).out hf
  obtain ⟨A2, c2, e2, l2, g2⟩ := k2
  simp only [List.cons.injEq, Value.slice.injEq, and_true] at e2
  obtain ⟨rfl, rfl, rfl⟩ := e2
  obtain ⟨x3, rfl, rfl, rfl, y3⟩ := open_string Try.underlying9 (hval 3 9 v3 rfl rfl) h3
  obtain ⟨a4, len4, cap4, rfl⟩ := okWide_slice Try.underlying40 (hval 4 40 v4 rfl rfl)
  have lt4 : ∀ x ∈ p4, x.block < W.heap.size := by obtain ⟨m, hm⟩ := h4; exact DataW.trod_lt m _ _ _ hm
  obtain ⟨x4, k4, z4⟩ : ∃ x : List (S52), (Kd.slice 52 k52).K W x [.slice a4 len4 cap4] ∧ ∀ z ∈ x, True := by
    obtain ⟨f, hf⟩ := h4
    exact (opens_slice Try.underlying40 (by kernel_rfl) opens52).out hf
  obtain ⟨A4, c4, e4, l4, g4⟩ := k4
  simp only [List.cons.injEq, Value.slice.injEq, and_true] at e4
  obtain ⟨rfl, rfl, rfl⟩ := e4
  refine (walk s0.f0 A0_1 c0_1 s0.f1 x1_0 x1_1 x1_2 x1_3 x1_4 x1_5 x1_6 x1_7 a2 cap2 x2 x3 a4 cap4 x4 W g0_1 l0_1 g2 l2 z2 y3 g4 l4).mono fun e W' ⟨he, bel⟩ => ?_
  subst he
  exact ⟨_, rfl, _, _, _, [], _, [], hW', trodAll_mk1 (shut_bool Try.underlying4 _), (trodAll_cons_mk (Below.trod laidOut (by kernel_rfl) (of_decide_eq_true (by kernel_rfl)) h0 bel lt0) (trodAll_cons_mk (Below.trod laidOut (by kernel_rfl) (of_decide_eq_true (by kernel_rfl)) h1 bel lt1) (trodAll_cons_mk (Below.trod laidOut (by kernel_rfl) (of_decide_eq_true (by kernel_rfl)) h2 bel lt2) (trodAll_cons_mk (shut_string Try.underlying9 y3) (trodAll_cons_mk (Below.trod laidOut (by kernel_rfl) (of_decide_eq_true (by kernel_rfl)) h4 bel lt4) trodAll_mk0))))), rfl, bel.frame _, fun h => by cases h⟩
theorem over (walk : ∀ (x0_0 : Int) (A0_1 : Option Addr) (c0_1 : Nat) (x0_1 : List (ByteArray)) (x1_0 x1_1 x1_2 x1_3 x1_4 x1_5 x1_6 x1_7 : Int) (A2 : Option Addr) (c2 : Nat) (x2 : List (S59)) (x3 : ByteArray) (A4 : Option Addr) (c4 : Nat) (x4 : List (S52)) (w : World), Kd.C Kd.string w A0_1 x0_1.length x0_1 → x0_1.length ≤ c0_1 → Kd.C k59 w A2 x2.length x2 → x2.length ≤ c2 → (∀ z ∈ x2, z.f0.size ≤ maxLen) → x3.size ≤ maxLen → Kd.C k52 w A4 x4.length x4 → x4.length ≤ c4 → Calls Try.prog 6 #[.agg #[.int .i64 x0_0, .slice A0_1 x0_1.length c0_1], .agg #[.int .i64 x1_0, .int .i64 x1_1, .int .i64 x1_2, .int .i64 x1_3, .int .i64 x1_4, .int .i64 x1_5, .int .i64 x1_6, .int .i64 x1_7], .slice A2 x2.length c2, .string x3, .slice A4 x4.length c4] w fun e w' => e = .returned (.bool true) ∧ Below w.heap.size w w') : Rows.diskInvariantRow.holds Try.pinned (OpenSpec.ofChange Rows.diskInvariantSpec) :=
  OpenClaim.holds_of_wide 6 Try.f6 rfl rfl rfl rfl rfl rfl rfl ⟨rfl, rfl, rfl, rfl, rfl⟩ rfl rfl rfl rfl rfl (by kernel_rfl) Try.func6 (by kernel_rfl)
    (of_decide_eq_true (by kernel_rfl)) (by unfold Func.isWrapper; first | (rw [if_pos (by decide +kernel)]; kernel_rfl) | (rw [if_neg (by decide +kernel)]; exact ⟨rfl, rfl⟩))
    (fun os started H enc _ => lifted walk os started H enc)
end Go.Proofs.Ytmmichdlgjcmoaa.diskInvariant
