import Derived.Test.YtmmichdlgjcmoaaRows
import Derived.Test.YtmmichdlgjcmoaaKinds
import Derived.WalkKit
import Derived.ProofKit
import Derived.OpenShut
import Derived.ShutString
import Derived.ChangeOld
import Derived.Below
import Derived.SizedLaws
namespace Go.Proofs.Ytmmichdlgjcmoaa.diskToMoves
open Go.ChangeShapes Go.WideShapes Go.ChangeAt Go.RowKit
open Go.ChangeMaps (open_string shut_string)
open Go.Proofs.YtmmichdlgjcmoaaW.PrintWords Go.Proofs.YtmmichdlgjcmoaaW.PrintLast Go.Proofs.YtmmichdlgjcmoaaW.PrintMore Go.Proofs.YtmmichdlgjcmoaaOpen Go.Proofs.Ytmmichdlgjcmoaa.PAll
set_option linter.unusedVariables false
set_option linter.unusedSimpArgs false
theorem own : ownKnob Try.prog.godebug = none := by kernel_rfl
theorem laidOut : laidOutB Try.prog = true := by kernel_rfl
set_option maxRecDepth 100000 in
theorem lifted (walk : ∀ (x0_0 : Int) (A0_1 : Option Addr) (c0_1 : Nat) (x0_1 : List (ByteArray)) (A1 : Option Addr) (c1 : Nat) (x1 : List (S59)) (x2 : ByteArray) (w : World), Kd.C Kd.string w A0_1 x0_1.length x0_1 → x0_1.length ≤ c0_1 → Kd.C k59 w A1 x1.length x1 → x1.length ≤ c1 → (∀ z ∈ x1, z.f0.size ≤ maxLen) → x2.size ≤ maxLen → Calls Try.prog 9 #[.agg #[.int .i64 x0_0, .slice A0_1 x0_1.length c0_1], .slice A1 x1.length c1, .string x2] w fun e w' => e = .returned (.bool true) ∧ Below w.heap.size w w')
    (os : Os) (started : os.Started) (H : Type) (enc : TypeId × Value → H) :
    ReturnsInHanded {} Try.checked os 9 .any (Rows.diskToMovesSpec.pre6 enc Try.prog Try.f9 Rows.diskToMovesRow.domain false) (Rows.diskToMovesSpec.post enc Try.prog Try.f9 false true false false) := by
  refine returnsInHanded_of_change_sized (C := Try.checked) own started (by kernel_rfl) Try.func9
    (ChangeSpec.witness6 (enc := enc) (C := Try.checked) false ⟨#[], #[.agg #[.int .i64 0, .slice none 0 0], .slice none 0 0, .string ByteArray.empty], []⟩ 8 (by kernel_rfl) (by kernel_rfl) (by kernel_rfl) (by kernel_rfl)) ?_
  intro W base args ds gs before hval0 hW hcnd hsz0 _
  have hval : ∀ (j : Nat) t v, Try.f9.params[j]? = some t → args[j]? = some v → Value.okWide Try.prog W .any base t v := hval0
  have hW' := hW
  obtain ⟨p, q, hA0, hV, rfl, hfz, hnd⟩ := hW
  have hA : DataW.TrodAll enc Try.prog W 0 (fun _ => true) true Try.f9.params.toList args.toList ds p := hA0
  rw [Try.params9] at hA hval
  obtain ⟨v0, vs0, d0, ds0, p0, q0, hargs, rfl, rfl, h0, r0⟩ := trodAll_cons hA
  obtain ⟨v1, vs1, d1, ds1, p1, q1, rfl, rfl, rfl, h1, r1⟩ := trodAll_cons r0
  obtain ⟨v2, vs2, d2, ds2, p2, q2, rfl, rfl, rfl, h2, r2⟩ := trodAll_cons r1
  obtain ⟨rfl, rfl, rfl⟩ := trodAll_nil r2
  obtain rfl : args = #[v0, v1, v2] := by cases args; simp_all
  obtain ⟨rfl, rfl⟩ := trodVars_none hV
  obtain ⟨cs0, rfl, hcs0⟩ := okWide_struct Try.underlying24 (hval 0 24 v0 rfl rfl)
  have lt0 : ∀ x ∈ p0, x.block < W.heap.size := by obtain ⟨m, hm⟩ := h0; exact DataW.trod_lt m _ _ _ hm
  obtain ⟨s0, k0, z0⟩ : ∃ s : S24, k24.K W s cs0.toList ∧ True := by
    obtain ⟨f, hf⟩ := h0
    exact opens24.out hf
  obtain ⟨A0_1, c0_1, e0, l0_1, g0_1⟩ := k24_open k0
  obtain rfl : cs0 = #[.int .i64 s0.f0, .slice A0_1 s0.f1.length c0_1] := by cases cs0; simp_all
  obtain ⟨a1, len1, cap1, rfl⟩ := okWide_slice Try.underlying25 (hval 1 25 v1 rfl rfl)
  have lt1 : ∀ x ∈ p1, x.block < W.heap.size := by obtain ⟨m, hm⟩ := h1; exact DataW.trod_lt m _ _ _ hm
  obtain ⟨x1, k1, z1⟩ : ∃ x : List (S59), (Kd.slice 59 k59).K W x [.slice a1 len1 cap1] ∧ ∀ z ∈ x, z.f0.size ≤ maxLen := by
    obtain ⟨f, hf⟩ := h1
    exact (opens_slice Try.underlying25 (by kernel_rfl) opens59).out hf
  obtain ⟨A1, c1, e1, l1, g1⟩ := k1
  simp only [List.cons.injEq, Value.slice.injEq, and_true] at e1
  obtain ⟨rfl, rfl, rfl⟩ := e1
  obtain ⟨x2, rfl, rfl, rfl, y2⟩ := open_string Try.underlying9 (hval 2 9 v2 rfl rfl) h2
  refine (walk s0.f0 A0_1 c0_1 s0.f1 a1 cap1 x1 x2 W g0_1 l0_1 g1 l1 z1 y2).mono fun e W' ⟨he, bel⟩ => ?_
  subst he
  exact ⟨_, rfl, _, _, _, [], _, [], hW', trodAll_mk1 (shut_bool Try.underlying4 _), (trodAll_cons_mk (Below.trod laidOut (by kernel_rfl) (of_decide_eq_true (by kernel_rfl)) h0 bel lt0) (trodAll_cons_mk (Below.trod laidOut (by kernel_rfl) (of_decide_eq_true (by kernel_rfl)) h1 bel lt1) (trodAll_cons_mk (shut_string Try.underlying9 y2) trodAll_mk0))), rfl, bel.frame _, fun h => by cases h⟩
theorem over (walk : ∀ (x0_0 : Int) (A0_1 : Option Addr) (c0_1 : Nat) (x0_1 : List (ByteArray)) (A1 : Option Addr) (c1 : Nat) (x1 : List (S59)) (x2 : ByteArray) (w : World), Kd.C Kd.string w A0_1 x0_1.length x0_1 → x0_1.length ≤ c0_1 → Kd.C k59 w A1 x1.length x1 → x1.length ≤ c1 → (∀ z ∈ x1, z.f0.size ≤ maxLen) → x2.size ≤ maxLen → Calls Try.prog 9 #[.agg #[.int .i64 x0_0, .slice A0_1 x0_1.length c0_1], .slice A1 x1.length c1, .string x2] w fun e w' => e = .returned (.bool true) ∧ Below w.heap.size w w') : Rows.diskToMovesRow.holds Try.pinned (OpenSpec.ofChange Rows.diskToMovesSpec) :=
  OpenClaim.holds_of_wide 9 Try.f9 rfl rfl rfl rfl rfl rfl rfl ⟨rfl, rfl, rfl, rfl, rfl⟩ rfl rfl rfl rfl rfl (by kernel_rfl) Try.func9 (by kernel_rfl)
    (of_decide_eq_true (by kernel_rfl)) (by unfold Func.isWrapper; first | (rw [if_pos (by decide +kernel)]; kernel_rfl) | (rw [if_neg (by decide +kernel)]; exact ⟨rfl, rfl⟩))
    (fun os started H enc _ => lifted walk os started H enc)
end Go.Proofs.Ytmmichdlgjcmoaa.diskToMoves
