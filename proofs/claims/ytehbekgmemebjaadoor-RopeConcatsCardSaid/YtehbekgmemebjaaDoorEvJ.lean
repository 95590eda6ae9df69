import Derived.Test.YtehbekgmemebjaaDoorEvI
namespace Go.Proofs.YtehbekgmemebjaaDoorEv
open Go
set_option linter.unusedVariables false
set_option linter.unusedSimpArgs false
variable {P : Program} {GL : List Nat} {ι : Inj} {H : Hp} {w : World}
theorem growBy_le (need : Nat) (h : 257 ≤ need) : ∀ (r c : Nat), c < need → Builtin.growBy need r c ≤ 3 * need
  | 0, c, hc => by simp only [Builtin.growBy]; omega
  | r + 1, c, hc => by
    simp only [Builtin.growBy]
    rw [if_neg (by omega)]
    by_cases h1 : c + (c + 768) / 4 < need
    · exact growBy_le need h r _ h1
    · have : Builtin.growBy need r (c + (c + 768) / 4) = c + (c + 768) / 4 := by
        cases r with
        | zero => rfl
        | succ r => simp only [Builtin.growBy]; rw [if_pos (by omega)]
      rw [this]
      omega
theorem nextslicecap_le (need c : Nat) (h : c < need) : Builtin.nextslicecap need c ≤ 3 * need := by
  unfold Builtin.nextslicecap
  split
  · omega
  · split
    · omega
    · exact growBy_le need (by omega) 4 c h
theorem VL_append {a b a' b' : List Value} (h : VL ι a a') (k : VL ι b b') : VL ι (a ++ b) (a' ++ b') := by
  refine ⟨by simp [h.1, k.1], fun j v v' e e' => ?_⟩
  rw [List.getElem?_append] at e e'
  rw [← h.1] at e'
  split at e
  · rw [if_pos (by assumption)] at e'
    exact h.2 j v v' e e'
  · rw [if_neg (by assumption)] at e'
    exact k.2 _ v v' e e'
theorem VL_get {l l' : List Value} (h : VL ι l l') {j : Nat} {v : Value} (e : l[j]? = some v) : ∃ v', l'[j]? = some v' ∧ VR ι v v' := by
  have hlt : j < l'.length := by rw [← h.1]; exact (List.getElem?_eq_some_iff.1 e).1
  exact ⟨l'[j], List.getElem?_eq_getElem hlt, h.2 j v _ e (List.getElem?_eq_getElem hlt)⟩
theorem append_in_run {st xt ty e : TypeId} {size n m k' : Nat} {a : Option Addr} {x' : Value} {l' : List Value} {xd : TypeDesc} (hst : P.underlying st = some (.slice e)) (hxt : P.underlying xt = some xd) (hxd : ∀ k, xd ≠ .int k) (hs : sizeQ P e = some size)
    (hm : (Builtin.lenOf x').run P w = .ok m w) (hf : (Builtin.firstCells size m x').run P w = .ok l'.toArray w) (hn : n + m ≤ k') (w' : World) (hw' : match a with | some a => (storeCells (a.add (n * size)) l').run P w = .ok () w' | none => w' = w) :
    (Builtin.append_ #[st, xt] ty #[.slice a n k', x']).run P w = .ok (.slice a (n + m) k') w' := by
  have hz : (match xd with | .int _ => true | _ => false) = false := by
    cases xd <;> first | rfl | exact absurd rfl (hxd _)
  have h0 : (#[st, xt] : Array TypeId)[0]? = some st := rfl
  have h1 : (#[st, xt] : Array TypeId)[1]? = some xt := rfl
  have h2 : (#[Value.slice a n k', x'] : Array Value)[0]? = some (.slice a n k') := rfl
  have h3 : (#[Value.slice a n k', x'] : Array Value)[1]? = some x' := rfl
  cases a with
  | none =>
    subst hw'
    simp only [Builtin.append_, h0, h1, h2, h3, Sem.run_bind, run_underlying hst, Result.andThen_ok, sizeQ_run hs, run_underlying hxt, Sem.run_pure, hz, Bool.false_eq_true, if_false, hm, if_pos hn, Bool.not_false, if_true, hf]
  | some a =>
    simp only [Builtin.append_, h0, h1, h2, h3, Sem.run_bind, run_underlying hst, Result.andThen_ok, sizeQ_run hs, run_underlying hxt, Sem.run_pure, hz, Bool.false_eq_true, if_false, hm, if_pos hn, Bool.not_false, if_true, hf, hw']
theorem append_grow_run {st xt ty e : TypeId} {i : TypeInfo} {zv : Value} {size n m k' : Nat} {a : Option Addr} {x' : Value} {l' old' : List Value} {xd : TypeDesc} (hst : P.underlying st = some (.slice e)) (hxt : P.underlying xt = some xd) (hxd : ∀ k, xd ≠ .int k) (hi : P.info? e = some i) (hsz : i.size = size) (hz : ∀ w, (zeroValue e).run P w = .ok zv w) (hzs : zv.cells.size = size)
    (hm : (Builtin.lenOf x').run P w = .ok m w) (hf : ∀ w1 : World, w1.heap = w.heap → (Builtin.firstCells size m x').run P w1 = .ok l'.toArray w1) (hf2 : ∀ w1 : World, w1.heap = w.heap → (Builtin.firstCells size n (.slice a n k')).run P w1 = .ok old'.toArray w1) (hn : ¬ n + m ≤ k') (hb : (n + m) * i.bytes ≤ 35184372088832) (hb8 : (n + m) * 8 ≤ 35184372088832) :
    ∃ (cap : Nat) (rest : List Value), n + m ≤ cap ∧ cap ≤ 9223372036854775807 ∧ rest.length = (cap - (n + m)) * size ∧ (Builtin.append_ #[st, xt] ty #[.slice a n k', x']).run P w = .ok (.slice (some ⟨w.heap.size, 0, none⟩) (n + m) cap) { w with drawn := w.drawn + 1, heap := w.heap.push (.cells ((old' ++ l') ++ rest).toArray e) } := by
  have hzz : (match xd with | .int _ => true | _ => false) = false := by
    cases xd <;> first | rfl | exact absurd rfl (hxd _)
  have h0 : (#[st, xt] : Array TypeId)[0]? = some st := rfl
  have h1 : (#[st, xt] : Array TypeId)[1]? = some xt := rfl
  have h2 : (#[Value.slice a n k', x'] : Array Value)[0]? = some (.slice a n k') := rfl
  have h3 : (#[Value.slice a n k', x'] : Array Value)[1]? = some x' := rfl
  obtain ⟨cap, hcap, hge⟩ : ∃ cap, (Question.appendCap (n + m) k' e).cut (w.tape w.drawn (.appendCap (n + m) k' e)) = cap ∧ n + m ≤ cap ∧ cap ≤ 9223372036854775807 := ⟨_, rfl, by simp [Question.cut], by
    simp only [Question.cut]
    have := Nat.mod_lt (w.tape w.drawn (.appendCap (n + m) k' e)) (show 0 < 2 ^ 63 - (n + m) by omega)
    omega⟩
  refine ⟨cap, (Builtin.zeroCells zv.cells (cap - (n + m))).toList, hge.1, hge.2, by simp [Builtin.zeroCells, hzs], ?_⟩
  have hask : ∀ (n : Nat) (w : World), (askRoom n).run P w = .ok () w := by
    intro n w; unfold askRoom; split <;> rfl
  have hq : (Question.appendCap (n + m) k' e).forced = false := rfl
  have c1 : ¬ (((n + m : Nat) : Int) > IntKind.i64.max ∧ (False ∨ i.bytes = 0)) := by
    have : IntKind.i64.max = 9223372036854775807 := by decide
    rw [this]; omega
  have c2 : ¬ (Builtin.nextslicecap (n + m) k' * i.bytes > 2 ^ 48) := by
    have h1 := nextslicecap_le (n + m) k' (by omega)
    have h2 : Builtin.nextslicecap (n + m) k' * i.bytes ≤ 3 * (n + m) * i.bytes := Nat.mul_le_mul_right _ h1
    have h3 : 3 * (n + m) * i.bytes = 3 * ((n + m) * i.bytes) := Nat.mul_assoc _ _ _
    omega
  have hty : ∀ w, (typeInfo e).run P w = .ok i w := fun w => by simp [typeInfo, hi]
  have hsq : ∀ w, (sizeOf e).run P w = .ok size w := fun w => by simp [sizeOf, typeInfo, hi, hsz]
  simp only [Builtin.append_, h0, h1, h2, h3, Sem.run_bind, run_underlying hst, Result.andThen_ok, hsq, run_underlying hxt, Sem.run_pure, hzz, Bool.false_eq_true, if_false, hm, if_neg hn, hty, if_neg c1, if_neg c2, choose, Sem.run, hq, hcap, hask, hf { w with drawn := w.drawn + 1 } rfl, hf2 { w with drawn := w.drawn + 1 } rfl, Bool.not_false, if_true, hz, newRow, newObj]
  congr 2
  congr 1
  congr 1
  apply Array.ext'
  simp
theorem lenO_run {x x' : Value} {m : Nat} (hx : VR ι x x') (h : lenO x = some m) : (Builtin.lenOf x').run P w = .ok m w := by
  unfold lenO at h
  split at h
  · cases h; cases hx <;> rfl
  · cases h; cases hx; rfl
  · cases h
end Go.Proofs.YtehbekgmemebjaaDoorEv
