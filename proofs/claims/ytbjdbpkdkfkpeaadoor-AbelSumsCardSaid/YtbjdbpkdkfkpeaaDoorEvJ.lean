import Derived.Test.YtbjdbpkdkfkpeaaDoorEvH
import Derived.MapKept
namespace Go.Proofs.YtbjdbpkdkfkpeaaDoorEv
open Go
set_option linter.unusedVariables false
set_option linter.unusedSimpArgs false
variable {P : Program} {GL : List Nat} {ι : Inj} {H : Hp} {w : World}
theorem set_both (hw : WR GL ι H w) {r : Nat} {i : BI} (hi : ι r = some i) (hl : live (H.get r) = true) (hr : i.ro = false) (o : AObj) (obj : Obj) (ho : ∀ w' : World, w'.heap[i.c]? = some obj → OK ι i o w') :
    WR GL ι (H.put r o) { w with heap := w.heap.setIfInBounds i.c obj } ∧ Fr ι w { w with heap := w.heap.setIfInBounds i.c obj } := by
  have hlt := (hw.dom r i hi).2
  refine hw.change hi hl hr o _ (by simp) (fun c hc => by simp [Array.getElem?_setIfInBounds, Ne.symm hc]) (ho _ (by simp [hlt])) rfl rfl rfl
theorem sameK_bits {kd : Nat} {k k2 : Value} (hk : keyIs kd k = true) (hf : fits k k2 = true) (hs : sameK k k2 = true) : k2 = k := by
  cases k <;> cases k2 <;> simp [fits, sameK] at hf hs
  · subst hs; rfl
  · subst hf; subst hs; rfl
  · rw [(MapKept.bytes_beq _ _).1 hs]
theorem keyThatStays_run {k : Value} {kd : Nat} (hk : keyIs kd k = true) : (Instr.keyThatStays k k).run P w = .ok k w := by
  have : Instr.sameBits 10000 k k = true := by
    cases k <;> simp [Instr.sameBits] <;> first | exact (MapKept.bytes_beq _ _).2 rfl | (cases kd with
       | zero => simp [keyIs] at hk
       | succ kd => cases kd with
         | zero => simp [keyIs] at hk
         | succ kd => cases kd <;> simp [keyIs] at hk)
  simp only [Instr.keyThatStays, this, if_true, Sem.run_pure]
theorem found_at {k : Value} {es : List MapEntry} {j : Nat} (hf : es.findIdx? (fun e => sameK k e.key) = some j) : ∃ e, es[j]? = some e ∧ sameK k e.key = true := by
  obtain ⟨h1, h2, _⟩ := List.findIdx?_eq_some_iff_getElem.1 hf
  exact ⟨es[j], List.getElem?_eq_getElem h1, h2⟩
theorem sound_mapUpd {t kt et : TypeId} {kd : Nat} {r c : Nat} {es : List MapEntry} {m' k k' x x' v : Value} {H' : Hp} (hu : P.underlying t = some (.map kt et)) (hk : keyKind P kt = some kd) (hm : VR ι (.map (some r)) m') (hkr : VR ι k k') (hx : VR ι x x') (hw : WR GL ι H w)
    (hg : H.get r = some (.map es c)) (hfit : fitsAll kd k es = true)
    (h : (match es.findIdx? fun e => sameK k e.key with
          | some i => some (OR.ok undef (H.put r (.map (es.modify i fun e => { e with key := k, val := x }) c)))
          | none => some (.ok undef (H.put r (.map (es ++ [{ key := k, val := x, born := c }]) (c + 1))))) = some (.ok v H')) : Step GL ι H w v H' ((do Instr.mapUpdate t m' k' x'; pure .skip : Sem Next).run P w) := by
  cases hm with
  | map _ i hi =>
    have hki : keyIs kd k = true := by simp only [fitsAll, Bool.and_eq_true] at hfit; exact hfit.1
    have := keyIs_VR hkr hki
    subst this
    obtain ⟨hro, es', hh, hlen, hrel⟩ := map_of hw hi hg
    have hkeys := map_keys hlen hrel
    have hfit' := hfit
    rw [fits_same hkeys] at hfit'
    have hfk := findKey_run (P := P) (w := w) hk hfit'
    have hget : (getObj i.c).run P w = .ok (.map es' c) w := by simp [getObj, Sem.run, hh]
    have hset : ∀ o, (setObj i.c o).run P w = .ok () { w with heap := w.heap.setIfInBounds i.c o } := by intro o; simp [setObj, Sem.run, hh]
    have hsame := find_same (k := k') hkeys
    cases hf : es.findIdx? (fun e => sameK k' e.key) with
    | none =>
      rw [hf] at h hsame
      simp only [Option.some.injEq, OR.ok.injEq] at h
      obtain ⟨rfl, rfl⟩ := h
      rw [← hsame] at hfk
      obtain ⟨a1, a2⟩ := set_both hw hi (by rw [hg]; rfl) hro (.map (es ++ [{ key := k', val := x, born := c }]) (c + 1)) (.map (es'.push { key := k', val := x', born := c }) (c + 1)) (fun w' hw' => ⟨hro, _, hw', by simp [hlen], fun j e e' he he' => by
        rw [List.getElem?_append] at he
        rw [Array.getElem?_push] at he'
        split at he
        · rename_i hlt
          rw [if_neg (by omega)] at he'
          exact hrel j e e' he he'
        · rename_i hlt
          by_cases hj : j = es.length
          · subst hj
            rw [if_pos (by omega)] at he'
            simp at he he'
            subst he; subst he'
            exact ⟨rfl, rfl, keyIs_O hki, hx⟩
          · rw [List.getElem?_eq_none (by simp; omega)] at he
            cases he⟩)
      refine ⟨undef, _, ι, .inr ⟨?_, rfl⟩, New.refl _ _ _, undefVR _, a1, a2, by rw [Hp.size_put]; exact Nat.le_refl _⟩
      simp only [Instr.mapUpdate, Sem.run_bind, run_underlying hu, Result.andThen_ok, hget, checkKey_run hk hki, hfk, Option.bind_none, hset, Sem.run_pure]
    | some j =>
      obtain ⟨ee, he1, hsk⟩ := found_at hf
      rw [hf] at h hsame
      simp only [Option.some.injEq, OR.ok.injEq] at h
      obtain ⟨rfl, rfl⟩ := h
      rw [← hsame] at hfk
      have hjl : j < es.length := (List.getElem?_eq_some_iff.1 he1).1
      have e2 : es'[j]? = some (es'[j]'(by omega)) := Array.getElem?_eq_getElem (by omega)
      have e3 : es'.toList[j]? = some (es'[j]'(by omega)) := by first | (simp; done) | (simp; omega)
      have hkey : (es'[j]'(by omega)).key = k' := by
        rw [← (hrel j _ _ he1 e2).2.1]
        refine sameK_bits hki ?_ hsk
        simp only [fitsAll, Bool.and_eq_true, List.all_eq_true] at hfit
        exact hfit.2 ee (List.mem_of_getElem? he1)
      simp only [Option.bind_some, e3, Option.map_some] at hfk
      obtain ⟨a1, a2⟩ := set_both hw hi (by rw [hg]; rfl) hro (.map (es.modify j fun e => { e with key := k', val := x }) c) (.map (es'.modify j fun e => { e with key := k', val := x' }) c) (fun w' hw' => ⟨hro, _, hw', by simp [hlen], fun q e e' he he' => by
        rw [List.getElem?_modify] at he
        rw [Array.getElem?_modify] at he'
        by_cases hjq : j = q
        · subst hjq
          simp only [if_true, he1, e2, Option.map_eq_map, Option.map_some, Option.some.injEq] at he he'
          subst he; subst he'
          exact ⟨(hrel j _ _ he1 e2).1, rfl, keyIs_O hki, hx⟩
        · simp only [if_neg hjq, Option.map_eq_map] at he he'
          cases e4 : es[q]? with
          | none => rw [e4] at he; simp at he
          | some z =>
            rw [e4] at he
            simp only [Option.map_some, Option.some.injEq] at he
            subst he
            exact hrel q z e' e4 he'⟩)
      refine ⟨undef, _, ι, .inr ⟨?_, rfl⟩, New.refl _ _ _, undefVR _, a1, a2, by rw [Hp.size_put]; exact Nat.le_refl _⟩
      simp only [Instr.mapUpdate, Sem.run_bind, run_underlying hu, Result.andThen_ok, hget, checkKey_run hk hki, hfk, e2, Option.map_some, Option.getD_some, hkey, keyThatStays_run hki, hset, Sem.run_pure]
theorem sound_rangeS {t : TypeId} {s : ByteArray} (hu : P.underlying t = some .string) (hw : WR GL ι H w) :
    Step GL ι H w (.pointer (some ⟨H.size, 0, none⟩)) (H.new (.iter s 0)) ((do pure (.value (← Instr.range t (.string s))) : Sem Next).run P w) := by
  obtain ⟨a, b, c⟩ := hw.alloc (.iter s 0) (.stringIter s 0) { c := w.heap.size, d := 0, u := 0, cn := 0, ro := false } { w with heap := w.heap.push (.stringIter s 0) } rfl rfl rfl ⟨rfl, rfl, by simp⟩ rfl rfl rfl
  refine ⟨.pointer (some ⟨w.heap.size, 0, none⟩), _, _, .inl ?_, b, .ptr _ _ _ (add_same _ _ _), a, c, by rw [Hp.size_new]; omega⟩
  simp [Instr.range, run_underlying hu, newObj, Sem.run]
theorem sound_nextS {r : Nat} {s : ByteArray} {pos : Nat} {x' v : Value} {H' : Hp} {ty : TypeId} (hx : VR ι (.pointer (some ⟨r, 0, none⟩)) x') (hw : WR GL ι H w) (hg : H.get r = some (.iter s pos))
    (h : (if pos < s.size then some (OR.ok (.tuple #[.bool true, .int .i64 pos, .int .i32 (Utf8.decode s pos).1]) (H.put r (.iter s (pos + (Utf8.decode s pos).2)))) else some (.ok (.tuple #[.bool false]) H)) = some (.ok v H')) :
    Step GL ι H w v H' ((do pure (.value (← Instr.next x' true ty)) : Sem Next).run P w) := by
  cases hx with
  | ptr _ _ i hi =>
    obtain ⟨o, hg', hk⟩ := hw.obj r i hi
    rw [hg] at hg'; cases hg'
    obtain ⟨hro, hd0, hh⟩ := hk
    have hget : (getObj i.c).run P w = .ok (.stringIter s pos) w := by simp [getObj, Sem.run, hh]
    have hset : ∀ o, (setObj i.c o).run P w = .ok () { w with heap := w.heap.setIfInBounds i.c o } := by intro o; simp [setObj, Sem.run, hh]
    split at h
    · rename_i hlt
      simp only [Option.some.injEq, OR.ok.injEq] at h
      obtain ⟨rfl, rfl⟩ := h
      obtain ⟨a1, a2⟩ := set_both hw hi (by rw [hg]; rfl) hro (.iter s (pos + (Utf8.decode s pos).2)) (.stringIter s (pos + (Utf8.decode s pos).2)) (fun w' hw' => ⟨hro, hd0, hw'⟩)
      refine ⟨_, _, ι, .inl ?_, New.refl _ _ _, flatVR ι 3 _ (by simp [flat]), a1, a2, by rw [Hp.size_put]; exact Nat.le_refl _⟩
      simp only [Instr.next, hd0, Nat.add_zero, Sem.run_bind, hget, Result.andThen_ok, if_pos hlt, hset, Sem.run_pure, goInt]
    · rename_i hlt
      simp only [Option.some.injEq, OR.ok.injEq] at h
      obtain ⟨rfl, rfl⟩ := h
      refine Step.pure hw (v' := .tuple #[.bool false]) ?_ (flatVR ι 3 _ (by simp [flat]))
      simp only [Instr.next, hd0, Nat.add_zero, Sem.run_bind, hget, Result.andThen_ok, if_neg hlt, Sem.run_pure]
theorem sound_assert {t xt : TypeId} {zero v : Value} {x x' : Value} {ok : Bool} (hu : ∃ d, P.underlying t = some d ∧ ∀ ms, d ≠ .interface ms) (hz : zeroVal P t = some zero) (hx : VR ι x x')
    (h : (match x with
    | .iface u v => if u = t then some (OR.ok (if ok then .tuple #[v, .bool true] else v) H) else if ok then some (.ok (.tuple #[zero, .bool false]) H) else none
    | .nilIface => if ok then some (.ok (.tuple #[zero, .bool false]) H) else none
    | _ => none) = some (.ok v H)) : ∃ v', (Instr.typeAssert x' xt t ok).run P w = .ok v' w ∧ VR ι v v' := by
  obtain ⟨d, hd, hni⟩ := hu
  obtain ⟨hzr, hzf⟩ := zeroVal_run hz
  have hzv := flatVR ι 3 zero hzf
  have pair : ∀ a a', VR ι a a' → ∀ b, VR ι (.tuple #[a, .bool b]) (.tuple #[a', .bool b]) := by
    intro a a' ha b
    refine .tuple _ _ rfl fun j u u' e e' => ?_
    match j with
    | 0 => simp at e e'; subst e; subst e'; exact ha
    | 1 => simp at e e'; subst e; subst e'; exact .bool b
    | j + 2 => simp at e
  split at h
  · rename_i u y
    cases hx with
    | iface _ _ y' hy =>
      split at h
      · rename_i hut
        subst hut
        simp only [Option.some.injEq, OR.ok.injEq, and_true] at h
        subst h
        refine ⟨if ok then .tuple #[y', .bool true] else y', ?_, ?_⟩
        · cases d <;> first
            | exact absurd rfl (hni _)
            | simp only [Instr.typeAssert, Sem.run_bind, run_underlying hd, Result.andThen_ok, if_true, Sem.run_pure]
        · cases ok with
          | true => exact pair _ _ hy true
          | false => exact hy
      · rename_i hut
        split at h
        · rename_i hok
          simp only [Option.some.injEq, OR.ok.injEq, and_true] at h
          subst h
          refine ⟨_, ?_, pair _ _ hzv false⟩
          cases d <;> first
            | exact absurd rfl (hni _)
            | simp only [Instr.typeAssert, Sem.run_bind, run_underlying hd, Result.andThen_ok, if_neg hut, hok, if_true, hzr, Sem.run_pure]
        · cases h
  · cases hx
    split at h
    · rename_i hok
      simp only [Option.some.injEq, OR.ok.injEq, and_true] at h
      subst h
      refine ⟨_, ?_, pair _ _ hzv false⟩
      cases d <;> first
        | exact absurd rfl (hni _)
        | simp only [Instr.typeAssert, Sem.run_bind, run_underlying hd, Result.andThen_ok, hok, if_true, hzr, Sem.run_pure]
    · cases h
  · cases h
end Go.Proofs.YtbjdbpkdkfkpeaaDoorEv
namespace Go.Proofs.YtbjdbpkdkfkpeaaDoorEv
open Go
set_option linter.unusedVariables false
set_option linter.unusedSimpArgs false
variable {P : Program} {GL : List Nat} {ι : Inj} {H : Hp} {w : World}
theorem growBy_le (need : Nat) (h : 257 ≤ need) : ∀ (r c : Nat), c < need → Builtin.growBy need r c ≤ 3 * need
  | 0, c, hc => by simp only [Builtin.growBy]; omega
  | r + 1, c, hc => by
    simp only [Builtin.growBy]
    rw [if_neg (by omega)]
    by_cases h1 : c + (c + 768) / 4 < need
    · exact growBy_le need h r _ h1
    · have : Builtin.growBy need r (c + (c + 768) / 4) = c + (c + 768) / 4 := by
        cases r with
        | zero => rfl
        | succ r => simp only [Builtin.growBy]; rw [if_pos (by omega)]
      rw [this]
      omega
theorem nextslicecap_le (need c : Nat) (h : c < need) : Builtin.nextslicecap need c ≤ 3 * need := by
  unfold Builtin.nextslicecap
  split
  · omega
  · split
    · omega
    · exact growBy_le need (by omega) 4 c h
theorem VL_append {a b a' b' : List Value} (h : VL ι a a') (k : VL ι b b') : VL ι (a ++ b) (a' ++ b') := by
  refine ⟨by simp [h.1, k.1], fun j v v' e e' => ?_⟩
  rw [List.getElem?_append] at e e'
  rw [← h.1] at e'
  split at e
  · rw [if_pos (by assumption)] at e'
    exact h.2 j v v' e e'
  · rw [if_neg (by assumption)] at e'
    exact k.2 _ v v' e e'
theorem VL_get {l l' : List Value} (h : VL ι l l') {j : Nat} {v : Value} (e : l[j]? = some v) : ∃ v', l'[j]? = some v' ∧ VR ι v v' := by
  have hlt : j < l'.length := by rw [← h.1]; exact (List.getElem?_eq_some_iff.1 e).1
  exact ⟨l'[j], List.getElem?_eq_getElem hlt, h.2 j v _ e (List.getElem?_eq_getElem hlt)⟩
theorem append_in_run {st xt ty e : TypeId} {size n m k' : Nat} {a : Option Addr} {x' : Value} {l' : List Value} {xd : TypeDesc} (hst : P.underlying st = some (.slice e)) (hxt : P.underlying xt = some xd) (hxd : ∀ k, xd ≠ .int k) (hs : sizeQ P e = some size)
    (hm : (Builtin.lenOf x').run P w = .ok m w) (hf : (Builtin.firstCells size m x').run P w = .ok l'.toArray w) (hn : n + m ≤ k') (w' : World) (hw' : match a with | some a => (storeCells (a.add (n * size)) l').run P w = .ok () w' | none => w' = w) :
    (Builtin.append_ #[st, xt] ty #[.slice a n k', x']).run P w = .ok (.slice a (n + m) k') w' := by
  have hz : (match xd with | .int _ => true | _ => false) = false := by
    cases xd <;> first | rfl | exact absurd rfl (hxd _)
  have h0 : (#[st, xt] : Array TypeId)[0]? = some st := rfl
  have h1 : (#[st, xt] : Array TypeId)[1]? = some xt := rfl
  have h2 : (#[Value.slice a n k', x'] : Array Value)[0]? = some (.slice a n k') := rfl
  have h3 : (#[Value.slice a n k', x'] : Array Value)[1]? = some x' := rfl
  cases a with
  | none =>
    subst hw'
    simp only [Builtin.append_, h0, h1, h2, h3, Sem.run_bind, run_underlying hst, Result.andThen_ok, sizeQ_run hs, run_underlying hxt, Sem.run_pure, hz, Bool.false_eq_true, if_false, hm, if_pos hn, Bool.not_false, if_true, hf]
  | some a =>
    simp only [Builtin.append_, h0, h1, h2, h3, Sem.run_bind, run_underlying hst, Result.andThen_ok, sizeQ_run hs, run_underlying hxt, Sem.run_pure, hz, Bool.false_eq_true, if_false, hm, if_pos hn, Bool.not_false, if_true, hf, hw']
theorem append_grow_run {st xt ty e : TypeId} {i : TypeInfo} {zv : Value} {size n m k' : Nat} {a : Option Addr} {x' : Value} {l' old' : List Value} {xd : TypeDesc} (hst : P.underlying st = some (.slice e)) (hxt : P.underlying xt = some xd) (hxd : ∀ k, xd ≠ .int k) (hi : P.info? e = some i) (hsz : i.size = size) (hz : ∀ w, (zeroValue e).run P w = .ok zv w) (hzs : zv.cells.size = size)
    (hm : (Builtin.lenOf x').run P w = .ok m w) (hf : ∀ w1 : World, w1.heap = w.heap → (Builtin.firstCells size m x').run P w1 = .ok l'.toArray w1) (hf2 : ∀ w1 : World, w1.heap = w.heap → (Builtin.firstCells size n (.slice a n k')).run P w1 = .ok old'.toArray w1) (hn : ¬ n + m ≤ k') (hb : (n + m) * i.bytes ≤ 35184372088832) (hb8 : (n + m) * 8 ≤ 35184372088832) :
    ∃ (cap : Nat) (rest : List Value), n + m ≤ cap ∧ cap ≤ 9223372036854775807 ∧ rest.length = (cap - (n + m)) * size ∧ (Builtin.append_ #[st, xt] ty #[.slice a n k', x']).run P w = .ok (.slice (some ⟨w.heap.size, 0, none⟩) (n + m) cap) { w with drawn := w.drawn + 1, heap := w.heap.push (.cells ((old' ++ l') ++ rest).toArray e) } := by
  have hzz : (match xd with | .int _ => true | _ => false) = false := by
    cases xd <;> first | rfl | exact absurd rfl (hxd _)
  have h0 : (#[st, xt] : Array TypeId)[0]? = some st := rfl
  have h1 : (#[st, xt] : Array TypeId)[1]? = some xt := rfl
  have h2 : (#[Value.slice a n k', x'] : Array Value)[0]? = some (.slice a n k') := rfl
  have h3 : (#[Value.slice a n k', x'] : Array Value)[1]? = some x' := rfl
  obtain ⟨cap, hcap, hge⟩ : ∃ cap, (Question.appendCap (n + m) k' e).cut (w.tape w.drawn (.appendCap (n + m) k' e)) = cap ∧ n + m ≤ cap ∧ cap ≤ 9223372036854775807 := ⟨_, rfl, by simp [Question.cut], by
    simp only [Question.cut]
    have := Nat.mod_lt (w.tape w.drawn (.appendCap (n + m) k' e)) (show 0 < 2 ^ 63 - (n + m) by omega)
    omega⟩
  refine ⟨cap, (Builtin.zeroCells zv.cells (cap - (n + m))).toList, hge.1, hge.2, by simp [Builtin.zeroCells, hzs], ?_⟩
  have hask : ∀ (n : Nat) (w : World), (askRoom n).run P w = .ok () w := by
    intro n w; unfold askRoom; split <;> rfl
  have hq : (Question.appendCap (n + m) k' e).forced = false := rfl
  have c1 : ¬ (((n + m : Nat) : Int) > IntKind.i64.max ∧ (False ∨ i.bytes = 0)) := by
    have : IntKind.i64.max = 9223372036854775807 := by decide
    rw [this]; omega
  have c2 : ¬ (Builtin.nextslicecap (n + m) k' * i.bytes > 2 ^ 48) := by
    have h1 := nextslicecap_le (n + m) k' (by omega)
    have h2 : Builtin.nextslicecap (n + m) k' * i.bytes ≤ 3 * (n + m) * i.bytes := Nat.mul_le_mul_right _ h1
    have h3 : 3 * (n + m) * i.bytes = 3 * ((n + m) * i.bytes) := Nat.mul_assoc _ _ _
    omega
  have hty : ∀ w, (typeInfo e).run P w = .ok i w := fun w => by simp [typeInfo, hi]
  have hsq : ∀ w, (sizeOf e).run P w = .ok size w := fun w => by simp [sizeOf, typeInfo, hi, hsz]
  simp only [Builtin.append_, h0, h1, h2, h3, Sem.run_bind, run_underlying hst, Result.andThen_ok, hsq, run_underlying hxt, Sem.run_pure, hzz, Bool.false_eq_true, if_false, hm, if_neg hn, hty, if_neg c1, if_neg c2, choose, Sem.run, hq, hcap, hask, hf { w with drawn := w.drawn + 1 } rfl, hf2 { w with drawn := w.drawn + 1 } rfl, Bool.not_false, if_true, hz, newRow, newObj]
  congr 2
  congr 1
  congr 1
  apply Array.ext'
  simp
theorem lenO_run {x x' : Value} {m : Nat} (hx : VR ι x x') (h : lenO x = some m) : (Builtin.lenOf x').run P w = .ok m w := by
  unfold lenO at h
  split at h
  · cases h; cases hx <;> rfl
  · cases h; cases hx; rfl
  · cases h
end Go.Proofs.YtbjdbpkdkfkpeaaDoorEv
