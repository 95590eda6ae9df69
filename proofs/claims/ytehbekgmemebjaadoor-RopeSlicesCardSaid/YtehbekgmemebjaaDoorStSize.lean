import Derived.Test.YtehbekgmemebjaaDoorRows
import Derived.WalkKit
import Derived.ShutString
import Derived.LaidMore
import Derived.LaidLaws
import Derived.OpenShut
import Derived.Test.YtehbekgmemebjaaDoorPvS
namespace Go.Proofs.YtehbekgmemebjaaDoorEv
open Go Go.RowKit Go.Proofs.YtehbekgmemebjaaDoor
theorem glob_cells {w : World} {fuel : Nat} {cs : Array Value} {p : List MemPlace} (hd : DataW.trod (fun _ => ()) Tryd.prog w 0 (fun _ => true) false fuel 106 cs.toList = some (Rows.laid_cayley_word_letters, p)) :
    cs = #[.int .u8 97, .int .u8 65, .int .u8 98, .int .u8 66, .int .u8 99, .int .u8 67, .int .u8 100, .int .u8 68, .int .u8 101, .int .u8 69, .int .u8 102, .int .u8 70, .int .u8 103, .int .u8 71, .int .u8 104, .int .u8 72] := by
  obtain ⟨xs, m, e, hx, hl, hn, hel⟩ := DataW.trod_array Tryd.underlying106 hd
  have c5 : Tryd.prog.cellsOf 5 = 1 := by kernel_rfl
  have c106 : Tryd.prog.cellsOf 106 = 16 := by kernel_rfl
  rw [c106] at hl
  simp only [Prod.mk.injEq, Rows.laid_cayley_word_letters, DataW.agg.injEq] at hx
  have hlx : xs.length = 16 := hn
  apply Array.toList_inj.1
  apply List.ext_getElem?
  intro i
  by_cases hi : i < 16
  · have h1 := hel i hi
    rw [c5] at h1
    have hx1 : xs[i]? = some (xs[i]'(by omega)) := List.getElem?_eq_getElem (by omega)
    rw [hx1] at h1
    obtain ⟨k, e1, e2, _⟩ := DataW.trod_int Tryd.underlying5 h1
    have e3 : cs.toList[i]? = some (.int .u8 k) := by
      have := congrArg (fun l => l[0]?) e1
      simpa [List.getElem?_take, List.getElem?_drop] using this
    rw [e3]
    have e4 : (xs.map (·.1))[i]? = some (.lit (.int .u8 k)) := by rw [List.getElem?_map, hx1, e2]; rfl
    rw [← hx.1] at e4
    have h16 : i = 0 ∨ i = 1 ∨ i = 2 ∨ i = 3 ∨ i = 4 ∨ i = 5 ∨ i = 6 ∨ i = 7 ∨ i = 8 ∨ i = 9 ∨ i = 10 ∨ i = 11 ∨ i = 12 ∨ i = 13 ∨ i = 14 ∨ i = 15 := by omega
    rcases h16 with rfl | rfl | rfl | rfl | rfl | rfl | rfl | rfl | rfl | rfl | rfl | rfl | rfl | rfl | rfl | rfl <;>
    · have e5 := DataW.lit.inj (Option.some.inj e4)
      cases e5
      rfl
  · rw [List.getElem?_eq_none (by omega), List.getElem?_eq_none (by simp; omega)]
end Go.Proofs.YtehbekgmemebjaaDoorEv
namespace Go.Proofs.YtehbekgmemebjaaDoorEv
open Go Go.RowKit Go.ChangeShapes Go.WideShapes
open Go.ChangeMaps (open_string)
set_option linter.unusedVariables false
set_option linter.unusedSimpArgs false
section
variable {P : Program} {w : World} {GL : List Nat}
def StrSz : (ts : List Ty) → Pe ts → Prop
  | [], _ => True
  | .str :: r, e => (show ByteArray from e.1).size ≤ 140737488351232 ∧ StrSz r e.2
  | _ :: r, e => StrSz r e.2
theorem tyC_str {n : Nat} {t : TypeId} (h : tyC P n t = some .str) : P.underlying t = some .string := by
  cases n with
  | zero => simp [tyC] at h
  | succ n =>
    have hS : ∀ (m : Nat) (l : List Field) (o k : Nat), tyS P m l o k ≠ some .str := by
      intro m l o k h
      have := tyS_agg h
      simp [Ty.isAgg] at this
    simp only [tyC] at h
    split at h
    · cases h
    · cases h
    · assumption
    · split at h
      · split at h <;> cases h
      · cases h
    · split at h
      · split at h <;> cases h
      · cases h
    · exact (hS _ _ _ _ h).elim
    · cases h
theorem strSz_of {n : Nat} {D : Type} {enc : TypeId × Value → D} {base b0 : Nat} {sp : Nat → Bool} {held : Bool} {r : Reach} {H : Hp} {Z : Nat → Prop} {ι : Inj} : ∀ {params : List TypeId} {ts : List Ty} {e : Pe ts} {vm vs : List Value} {ds : List (DataW D)} {ps : List MemPlace}, tyCs P n params = some ts → DataW.TrodAll enc P w base sp held params vs ds ps →
    (∀ (j : Nat) t v, params[j]? = some t → vs[j]? = some v → Value.okWide P w r b0 t v) → ArgsOK H Z ts e vm → All2 (VR ι) vm vs → (DataW.weightsEach P params ds).all (· ≤ reachBytes) = true → StrSz ts e
  | [], ts, e, vm, vs, ds, ps, h, hA, hok, ha, hv, hw => by
    simp only [tyCs] at h
    cases h
    trivial
  | ty :: params, ts, e, vm, vs, ds, ps, h, hA, hok, ha, hv, hw => by
    simp only [tyCs] at h
    split at h
    case h_2 => cases h
    rename_i t l h1 h2
    cases h
    obtain ⟨v, vs', d, ds', p, q, rfl, rfl, rfl, h3, h4⟩ := trodAll_cons hA
    match vm, ha, hv with
    | c :: vm, ha, hv =>
      simp only [DataW.weightsEach, List.all_append, Bool.and_eq_true] at hw
      have ih := strSz_of h2 h4 (fun j t v e1 e2 => hok (j + 1) t v (by simpa using e1) (by simpa using e2)) ha.2 hv.2 hw.2
      cases t with
      | str =>
        refine ⟨?_, ih⟩
        obtain ⟨s, rfl, rfl, _, _⟩ := open_string (tyC_str h1) (hok 0 ty v rfl rfl) h3
        have hc := ha.1
        unfold RepV at hc
        simp only [Ty.isAgg, Bool.false_eq_true, if_false, Rep] at hc
        have hw1 := hw.1
        simp only [DataW.weights, List.all_cons, List.all_nil, Bool.and_true] at hw1
        replace hw1 := of_decide_eq_true hw1
        have hs : s.size = s.data.toList.length := Array.length_toList.symm
        have hcc : c = .string e.1 := by simpa using hc
        have hvv := hv.1
        rw [hcc] at hvv
        cases hvv
        show ByteArray.size _ ≤ _
        rw [hs]
        exact hw1
      | _ => exact ih
theorem law_callsS {K : Caller} {G : Hp → Prop} (hK : CallOK P GL K) {f : Nat} {args : List Ty} {F : Nat → Pe args → Option (Pe (tys [(.bool, none)]))} (hp : ∀ (k : Nat) (H : Hp) (Z : Nat → Prop) (e : Pe args) (vs : List Value), G H → (∀ b, Z b → b < H.size) → ArgsOK H Z args e vs → ∀ r, F k e = some r →
    ∃ v H' Z' ws, K f vs.toArray H = some (.ret v H') ∧ Kept H H' ∧ (∀ b, Z b → Z' b) ∧ (∀ b, Z' b → b < H'.size) ∧ (∀ b, Z' b → b < H.size → Z b) ∧ v = packV ws ∧ RsOK H' Z' H.size [(.bool, none)] r ws)
    {n : Nat} {params : List TypeId} (hty : tyCs P n params = some args) {H0 : Hp} {ι0 : Inj} (hw : WR GL ι0 H0 w) (hr : AllRo ι0) (hG0 : G H0) (hG : ∀ H H', G H → Kept H H' → G H')
    {D : Type} {enc : TypeId × Value → D} {base b0 : Nat} {sp : Nat → Bool} {held : Bool} {r : Reach} {vs : List Value} {ds : List (DataW D)} {ps : List MemPlace} (hA : DataW.TrodAll enc P w base sp held params vs ds ps) (hok : ∀ (j : Nat) t v, params[j]? = some t → vs[j]? = some v → Value.okWide P w r b0 t v)
    (hsz : (DataW.weightsEach P params ds).all (· ≤ reachBytes) = true)
    (pure : ∀ e : Pe args, DensOK args e → StrSz args e → ∃ k, F k e = some (true, ())) : Calls P f vs.toArray w fun e w' => e = .returned (.bool true) ∧ Below w.heap.size w w' := by
  obtain ⟨H', ι', e, vm, a1, a2, a3, a4, a5, a6, a7⟩ := args_open hty hA hok H0 ι0 hw hr
  obtain ⟨k, hk⟩ := pure e a7 (strSz_of hty hA hok a5 a6 hsz)
  obtain ⟨v, H2, Z', ws, c1, c2, c3, c4, c5, c6, c7⟩ := hp k H' (fun b => b < H'.size) e vm (hG _ _ hG0 a2) (fun b h => h) a5 _ hk
  have hv : v = .bool true := by
    match ws, c7 with
    | [w0], ⟨h1, _⟩ =>
      have h2 : [w0] = [.bool true] := h1
      rw [c6]
      simp only [List.cons.injEq, and_true] at h2
      exact h2
    | [], h => exact h.elim
    | _ :: _ :: _, h => exact h.2.elim
  subst hv
  have hva : VA ι' vm.toArray vs.toArray := by
    have hl := a6.length
    refine ⟨by simpa using hl, fun j v v' e1 e2 => ?_⟩
    obtain ⟨v2, e3, e4⟩ := a6.get j (by simpa using e1)
    have e2' : vs[j]? = some v' := by simpa using e2
    rw [e2'] at e3
    cases e3
    exact e4
  refine ((hK _ _ _ _ c1).2 ι' w _ a3 hva).mono ?_
  rintro e w' ⟨v', ι2, rfl, hn, hvr, hwr, hf, _⟩
  have : v' = .bool true := by cases hvr; rfl
  subst this
  exact ⟨rfl, hf.below a4⟩
end
end Go.Proofs.YtehbekgmemebjaaDoorEv
