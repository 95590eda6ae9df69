import Derived.Test.YtehbekgmemebjaaDoorEvH
import Derived.MapKept
namespace Go.Proofs.YtehbekgmemebjaaDoorEv
open Go
set_option linter.unusedVariables false
set_option linter.unusedSimpArgs false
variable {P : Program} {GL : List Nat} {ι : Inj} {H : Hp} {w : World}
theorem set_both (hw : WR GL ι H w) {r : Nat} {i : BI} (hi : ι r = some i) (hl : live (H.get r) = true) (hr : i.ro = false) (o : AObj) (obj : Obj) (ho : ∀ w' : World, w'.heap[i.c]? = some obj → OK ι i o w') :
    WR GL ι (H.put r o) { w with heap := w.heap.setIfInBounds i.c obj } ∧ Fr ι w { w with heap := w.heap.setIfInBounds i.c obj } := by
  have hlt := (hw.dom r i hi).2
  refine hw.change hi hl hr o _ (by simp) (fun c hc => by simp [Array.getElem?_setIfInBounds, Ne.symm hc]) (ho _ (by simp [hlt])) rfl rfl rfl
theorem sameK_bits {kd : Nat} {k k2 : Value} (hk : keyIs kd k = true) (hf : fits k k2 = true) (hs : sameK k k2 = true) : k2 = k := by
  cases k <;> cases k2 <;> simp [fits, sameK] at hf hs
  · subst hs; rfl
  · subst hf; subst hs; rfl
  · rw [(MapKept.bytes_beq _ _).1 hs]
theorem keyThatStays_run {k : Value} {kd : Nat} (hk : keyIs kd k = true) : (Instr.keyThatStays k k).run P w = .ok k w := by
  have : Instr.sameBits 10000 k k = true := by
    cases k <;> simp [Instr.sameBits] <;> first | exact (MapKept.bytes_beq _ _).2 rfl | (cases kd with
       | zero => simp [keyIs] at hk
       | succ kd => cases kd with
         | zero => simp [keyIs] at hk
         | succ kd => cases kd <;> simp [keyIs] at hk)
  simp only [Instr.keyThatStays, this, if_true, Sem.run_pure]
theorem found_at {k : Value} {es : List MapEntry} {j : Nat} (hf : es.findIdx? (fun e => sameK k e.key) = some j) : ∃ e, es[j]? = some e ∧ sameK k e.key = true := by
  obtain ⟨h1, h2, _⟩ := List.findIdx?_eq_some_iff_getElem.1 hf
  exact ⟨es[j], List.getElem?_eq_getElem h1, h2⟩
theorem sound_mapUpd {t kt et : TypeId} {kd : Nat} {r c : Nat} {es : List MapEntry} {m' k k' x x' v : Value} {H' : Hp} (hu : P.underlying t = some (.map kt et)) (hk : keyKind P kt = some kd) (hm : VR ι (.map (some r)) m') (hkr : VR ι k k') (hx : VR ι x x') (hw : WR GL ι H w)
    (hg : H.get r = some (.map es c)) (hfit : fitsAll kd k es = true)
    (h : (match es.findIdx? fun e => sameK k e.key with
          | some i => some (OR.ok undef (H.put r (.map (es.modify i fun e => { e with key := k, val := x }) c)))
          | none => some (.ok undef (H.put r (.map (es ++ [{ key := k, val := x, born := c }]) (c + 1))))) = some (.ok v H')) : Step GL ι H w v H' ((do Instr.mapUpdate t m' k' x'; pure .skip : Sem Next).run P w) := by
  cases hm with
  | map _ i hi =>
    have hki : keyIs kd k = true := by simp only [fitsAll, Bool.and_eq_true] at hfit; exact hfit.1
    have := keyIs_VR hkr hki
    subst this
    obtain ⟨hro, es', hh, hlen, hrel⟩ := map_of hw hi hg
    have hkeys := map_keys hlen hrel
    have hfit' := hfit
    rw [fits_same hkeys] at hfit'
    have hfk := findKey_run (P := P) (w := w) hk hfit'
    have hget : (getObj i.c).run P w = .ok (.map es' c) w := by simp [getObj, Sem.run, hh]
    have hset : ∀ o, (setObj i.c o).run P w = .ok () { w with heap := w.heap.setIfInBounds i.c o } := by intro o; simp [setObj, Sem.run, hh]
    have hsame := find_same (k := k') hkeys
    cases hf : es.findIdx? (fun e => sameK k' e.key) with
    | none =>
      rw [hf] at h hsame
      simp only [Option.some.injEq, OR.ok.injEq] at h
      obtain ⟨rfl, rfl⟩ := h
      rw [← hsame] at hfk
      obtain ⟨a1, a2⟩ := set_both hw hi (by rw [hg]; rfl) hro (.map (es ++ [{ key := k', val := x, born := c }]) (c + 1)) (.map (es'.push { key := k', val := x', born := c }) (c + 1)) (fun w' hw' => ⟨hro, _, hw', by simp [hlen], fun j e e' he he' => by
        rw [List.getElem?_append] at he
        rw [Array.getElem?_push] at he'
        split at he
        · rename_i hlt
          rw [if_neg (by omega)] at he'
          exact hrel j e e' he he'
        · rename_i hlt
          by_cases hj : j = es.length
          · subst hj
            rw [if_pos (by omega)] at he'
            simp at he he'
            subst he; subst he'
            exact ⟨rfl, rfl, keyIs_O hki, hx⟩
          · rw [List.getElem?_eq_none (by simp; omega)] at he
            cases he⟩)
      refine ⟨undef, _, ι, .inr ⟨?_, rfl⟩, New.refl _ _ _, undefVR _, a1, a2, by rw [Hp.size_put]; exact Nat.le_refl _⟩
      simp only [Instr.mapUpdate, Sem.run_bind, run_underlying hu, Result.andThen_ok, hget, checkKey_run hk hki, hfk, Option.bind_none, hset, Sem.run_pure]
    | some j =>
      obtain ⟨ee, he1, hsk⟩ := found_at hf
      rw [hf] at h hsame
      simp only [Option.some.injEq, OR.ok.injEq] at h
      obtain ⟨rfl, rfl⟩ := h
      rw [← hsame] at hfk
      have hjl : j < es.length := (List.getElem?_eq_some_iff.1 he1).1
      have e2 : es'[j]? = some (es'[j]'(by omega)) := Array.getElem?_eq_getElem (by omega)
      have e3 : es'.toList[j]? = some (es'[j]'(by omega)) := by first | (simp; done) | (simp; omega)
      have hkey : (es'[j]'(by omega)).key = k' := by
        rw [← (hrel j _ _ he1 e2).2.1]
        refine sameK_bits hki ?_ hsk
        simp only [fitsAll, Bool.and_eq_true, List.all_eq_true] at hfit
        exact hfit.2 ee (List.mem_of_getElem? he1)
      simp only [Option.bind_some, e3, Option.map_some] at hfk
      obtain ⟨a1, a2⟩ := set_both hw hi (by rw [hg]; rfl) hro (.map (es.modify j fun e => { e with key := k', val := x }) c) (.map (es'.modify j fun e => { e with key := k', val := x' }) c) (fun w' hw' => ⟨hro, _, hw', by simp [hlen], fun q e e' he he' => by
        rw [List.getElem?_modify] at he
        rw [Array.getElem?_modify] at he'
        by_cases hjq : j = q
        · subst hjq
          simp only [if_true, he1, e2, Option.map_eq_map, Option.map_some, Option.some.injEq] at he he'
          subst he; subst he'
          exact ⟨(hrel j _ _ he1 e2).1, rfl, keyIs_O hki, hx⟩
        · simp only [if_neg hjq, Option.map_eq_map] at he he'
          cases e4 : es[q]? with
          | none => rw [e4] at he; simp at he
          | some z =>
            rw [e4] at he
            simp only [Option.map_some, Option.some.injEq] at he
            subst he
            exact hrel q z e' e4 he'⟩)
      refine ⟨undef, _, ι, .inr ⟨?_, rfl⟩, New.refl _ _ _, undefVR _, a1, a2, by rw [Hp.size_put]; exact Nat.le_refl _⟩
      simp only [Instr.mapUpdate, Sem.run_bind, run_underlying hu, Result.andThen_ok, hget, checkKey_run hk hki, hfk, e2, Option.map_some, Option.getD_some, hkey, keyThatStays_run hki, hset, Sem.run_pure]
theorem sound_rangeS {t : TypeId} {s : ByteArray} (hu : P.underlying t = some .string) (hw : WR GL ι H w) :
    Step GL ι H w (.pointer (some ⟨H.size, 0, none⟩)) (H.new (.iter s 0)) ((do pure (.value (← Instr.range t (.string s))) : Sem Next).run P w) := by
  obtain ⟨a, b, c⟩ := hw.alloc (.iter s 0) (.stringIter s 0) { c := w.heap.size, d := 0, u := 0, cn := 0, ro := false } { w with heap := w.heap.push (.stringIter s 0) } rfl rfl rfl ⟨rfl, rfl, by simp⟩ rfl rfl rfl
  refine ⟨.pointer (some ⟨w.heap.size, 0, none⟩), _, _, .inl ?_, b, .ptr _ _ _ (add_same _ _ _), a, c, by rw [Hp.size_new]; omega⟩
  simp [Instr.range, run_underlying hu, newObj, Sem.run]
theorem sound_nextS {r : Nat} {s : ByteArray} {pos : Nat} {x' v : Value} {H' : Hp} {ty : TypeId} (hx : VR ι (.pointer (some ⟨r, 0, none⟩)) x') (hw : WR GL ι H w) (hg : H.get r = some (.iter s pos))
    (h : (if pos < s.size then some (OR.ok (.tuple #[.bool true, .int .i64 pos, .int .i32 (Utf8.decode s pos).1]) (H.put r (.iter s (pos + (Utf8.decode s pos).2)))) else some (.ok (.tuple #[.bool false]) H)) = some (.ok v H')) :
    Step GL ι H w v H' ((do pure (.value (← Instr.next x' true ty)) : Sem Next).run P w) := by
  cases hx with
  | ptr _ _ i hi =>
    obtain ⟨o, hg', hk⟩ := hw.obj r i hi
    rw [hg] at hg'; cases hg'
    obtain ⟨hro, hd0, hh⟩ := hk
    have hget : (getObj i.c).run P w = .ok (.stringIter s pos) w := by simp [getObj, Sem.run, hh]
    have hset : ∀ o, (setObj i.c o).run P w = .ok () { w with heap := w.heap.setIfInBounds i.c o } := by intro o; simp [setObj, Sem.run, hh]
    split at h
    · rename_i hlt
      simp only [Option.some.injEq, OR.ok.injEq] at h
      obtain ⟨rfl, rfl⟩ := h
      obtain ⟨a1, a2⟩ := set_both hw hi (by rw [hg]; rfl) hro (.iter s (pos + (Utf8.decode s pos).2)) (.stringIter s (pos + (Utf8.decode s pos).2)) (fun w' hw' => ⟨hro, hd0, hw'⟩)
      refine ⟨_, _, ι, .inl ?_, New.refl _ _ _, flatVR ι 3 _ (by simp [flat]), a1, a2, by rw [Hp.size_put]; exact Nat.le_refl _⟩
      simp only [Instr.next, hd0, Nat.add_zero, Sem.run_bind, hget, Result.andThen_ok, if_pos hlt, hset, Sem.run_pure, goInt]
    · rename_i hlt
      simp only [Option.some.injEq, OR.ok.injEq] at h
      obtain ⟨rfl, rfl⟩ := h
      refine Step.pure hw (v' := .tuple #[.bool false]) ?_ (flatVR ι 3 _ (by simp [flat]))
      simp only [Instr.next, hd0, Nat.add_zero, Sem.run_bind, hget, Result.andThen_ok, if_neg hlt, Sem.run_pure]
theorem sound_assert {t xt : TypeId} {zero v : Value} {x x' : Value} {ok : Bool} (hu : ∃ d, P.underlying t = some d ∧ ∀ ms, d ≠ .interface ms) (hz : zeroVal P t = some zero) (hx : VR ι x x')
    (h : (match x with
    | .iface u v => if u = t then some (OR.ok (if ok then .tuple #[v, .bool true] else v) H) else if ok then some (.ok (.tuple #[zero, .bool false]) H) else none
    | .nilIface => if ok then some (.ok (.tuple #[zero, .bool false]) H) else none
    | _ => none) = some (.ok v H)) : ∃ v', (Instr.typeAssert x' xt t ok).run P w = .ok v' w ∧ VR ι v v' := by
  obtain ⟨d, hd, hni⟩ := hu
  obtain ⟨hzr, hzf⟩ := zeroVal_run hz
  have hzv := flatVR ι 3 zero hzf
  have pair : ∀ a a', VR ι a a' → ∀ b, VR ι (.tuple #[a, .bool b]) (.tuple #[a', .bool b]) := by
    intro a a' ha b
    refine .tuple _ _ rfl fun j u u' e e' => ?_
    match j with
    | 0 => simp at e e'; subst e; subst e'; exact ha
    | 1 => simp at e e'; subst e; subst e'; exact .bool b
    | j + 2 => simp at e
  split at h
  · rename_i u y
    cases hx with
    | iface _ _ y' hy =>
      split at h
      · rename_i hut
        subst hut
        simp only [Option.some.injEq, OR.ok.injEq, and_true] at h
        subst h
        refine ⟨if ok then .tuple #[y', .bool true] else y', ?_, ?_⟩
        · cases d <;> first
            | exact absurd rfl (hni _)
            | simp only [Instr.typeAssert, Sem.run_bind, run_underlying hd, Result.andThen_ok, if_true, Sem.run_pure]
        · cases ok with
          | true => exact pair _ _ hy true
          | false => exact hy
      · rename_i hut
        split at h
        · rename_i hok
          simp only [Option.some.injEq, OR.ok.injEq, and_true] at h
          subst h
          refine ⟨_, ?_, pair _ _ hzv false⟩
          cases d <;> first
            | exact absurd rfl (hni _)
            | simp only [Instr.typeAssert, Sem.run_bind, run_underlying hd, Result.andThen_ok, if_neg hut, hok, if_true, hzr, Sem.run_pure]
        · cases h
  · cases hx
    split at h
    · rename_i hok
      simp only [Option.some.injEq, OR.ok.injEq, and_true] at h
      subst h
      refine ⟨_, ?_, pair _ _ hzv false⟩
      cases d <;> first
        | exact absurd rfl (hni _)
        | simp only [Instr.typeAssert, Sem.run_bind, run_underlying hd, Result.andThen_ok, hok, if_true, hzr, Sem.run_pure]
    · cases h
  · cases h
end Go.Proofs.YtehbekgmemebjaaDoorEv
namespace Go.Proofs.YtehbekgmemebjaaDoorEv
open Go
set_option linter.unusedVariables false
set_option linter.unusedSimpArgs false
variable {P : Program} {GL : List Nat} {ι : Inj} {H : Hp} {w : World}
theorem growBy_le (need : Nat) (h : 257 ≤ need) : ∀ (r c : Nat), c < need → Builtin.growBy need r c ≤ 3 * need
  | 0, c, hc => by simp only [Builtin.growBy]; omega
  | r + 1, c, hc => by
    simp only [Builtin.growBy]
    rw [if_neg (by omega)]
    by_cases h1 : c + (c + 768) / 4 < need
    · exact growBy_le need h r _ h1
    · have : Builtin.growBy need r (c + (c + 768) / 4) = c + (c + 768) / 4 := by
        cases r with
        | zero => rfl
        | succ r => simp only [Builtin.growBy]; rw [if_pos (by omega)]
      rw [this]
      omega
theorem nextslicecap_le (need c : Nat) (h : c < need) : Builtin.nextslicecap need c ≤ 3 * need := by
  unfold Builtin.nextslicecap
  split
  · omega
  · split
    · omega
    · exact growBy_le need (by omega) 4 c h
theorem VL_append {a b a' b' : List Value} (h : VL ι a a') (k : VL ι b b') : VL ι (a ++ b) (a' ++ b') := by
  refine ⟨by simp [h.1, k.1], fun j v v' e e' => ?_⟩
  rw [List.getElem?_append] at e e'
  rw [← h.1] at e'
  split at e
  · rw [if_pos (by assumption)] at e'
    exact h.2 j v v' e e'
  · rw [if_neg (by assumption)] at e'
    exact k.2 _ v v' e e'
theorem VL_get {l l' : List Value} (h : VL ι l l') {j : Nat} {v : Value} (e : l[j]? = some v) : ∃ v', l'[j]? = some v' ∧ VR ι v v' := by
  have hlt : j < l'.length := by rw [← h.1]; exact (List.getElem?_eq_some_iff.1 e).1
  exact ⟨l'[j], List.getElem?_eq_getElem hlt, h.2 j v _ e (List.getElem?_eq_getElem hlt)⟩
theorem append_in_run {st xt ty e : TypeId} {size n m k' : Nat} {a : Option Addr} {x' : Value} {l' : List Value} {xd : TypeDesc} (hst : P.underlying st = some (.slice e)) (hxt : P.underlying xt = some xd) (hxd : ∀ k, xd ≠ .int k) (hs : sizeQ P e = some size)
    (hm : (Builtin.lenOf x').run P w = .ok m w) (hf : (Builtin.firstCells size m x').run P w = .ok l'.toArray w) (hn : n + m ≤ k') (w' : World) (hw' : match a with | some a => (storeCells (a.add (n * size)) l').run P w = .ok () w' | none => w' = w) :
    (Builtin.append_ #[st, xt] ty #[.slice a n k', x']).run P w = .ok (.slice a (n + m) k') w' := by
  have hz : (match xd with | .int _ => true | _ => false) = false := by
    cases xd <;> first | rfl | exact absurd rfl (hxd _)
  have h0 : (#[st, xt] : Array TypeId)[0]? = some st := rfl
  have h1 : (#[st, xt] : Array TypeId)[1]? = some xt := rfl
  have h2 : (#[Value.slice a n k', x'] : Array Value)[0]? = some (.slice a n k') := rfl
  have h3 : (#[Value.slice a n k', x'] : Array Value)[1]? = some x' := rfl
  cases a with
  | none =>
    subst hw'
    simp only [Builtin.append_, h0, h1, h2, h3, Sem.run_bind, run_underlying hst, Result.andThen_ok, sizeQ_run hs, run_underlying hxt, Sem.run_pure, hz, Bool.false_eq_true, if_false, hm, if_pos hn, Bool.not_false, if_true, hf]
  | some a =>
    simp only [Builtin.append_, h0, h1, h2, h3, Sem.run_bind, run_underlying hst, Result.andThen_ok, sizeQ_run hs, run_underlying hxt, Sem.run_pure, hz, Bool.false_eq_true, if_false, hm, if_pos hn, Bool.not_false, if_true, hf, hw']
theorem append_grow_run {st xt ty e : TypeId} {i : TypeInfo} {zv : Value} {size n m k' : Nat} {a : Option Addr} {x' : Value} {l' old' : List Value} {xd : TypeDesc} (hst : P.underlying st = some (.slice e)) (hxt : P.underlying xt = some xd) (hxd : ∀ k, xd ≠ .int k) (hi : P.info? e = some i) (hsz : i.size = size) (hz : ∀ w, (zeroValue e).run P w = .ok zv w) (hzs : zv.cells.size = size)
    (hm : (Builtin.lenOf x').run P w = .ok m w) (hf : ∀ w1 : World, w1.heap = w.heap → (Builtin.firstCells size m x').run P w1 = .ok l'.toArray w1) (hf2 : ∀ w1 : World, w1.heap = w.heap → (Builtin.firstCells size n (.slice a n k')).run P w1 = .ok old'.toArray w1) (hn : ¬ n + m ≤ k') (hb : (n + m) * i.bytes ≤ 35184372088832) (hb8 : (n + m) * 8 ≤ 35184372088832) :
    ∃ (cap : Nat) (rest : List Value), n + m ≤ cap ∧ cap ≤ 9223372036854775807 ∧ rest.length = (cap - (n + m)) * size ∧ (Builtin.append_ #[st, xt] ty #[.slice a n k', x']).run P w = .ok (.slice (some ⟨w.heap.size, 0, none⟩) (n + m) cap) { w with drawn := w.drawn + 1, heap := w.heap.push (.cells ((old' ++ l') ++ rest).toArray e) } := by
  have hzz : (match xd with | .int _ => true | _ => false) = false := by
    cases xd <;> first | rfl | exact absurd rfl (hxd _)
  have h0 : (#[st, xt] : Array TypeId)[0]? = some st := rfl
  have h1 : (#[st, xt] : Array TypeId)[1]? = some xt := rfl
  have h2 : (#[Value.slice a n k', x'] : Array Value)[0]? = some (.slice a n k') := rfl
  have h3 : (#[Value.slice a n k', x'] : Array Value)[1]? = some x' := rfl
  obtain ⟨cap, hcap, hge⟩ : ∃ cap, (Question.appendCap (n + m) k' e).cut (w.tape w.drawn (.appendCap (n + m) k' e)) = cap ∧ n + m ≤ cap ∧ cap ≤ 9223372036854775807 := ⟨_, rfl, by simp [Question.cut], by
    simp only [Question.cut]
    have := Nat.mod_lt (w.tape w.drawn (.appendCap (n + m) k' e)) (show 0 < 2 ^ 63 - (n + m) by omega)
    omega⟩
  refine ⟨cap, (Builtin.zeroCells zv.cells (cap - (n + m))).toList, hge.1, hge.2, by simp [Builtin.zeroCells, hzs], ?_⟩
  have hask : ∀ (n : Nat) (w : World), (askRoom n).run P w = .ok () w := by
    intro n w; unfold askRoom; split <;> rfl
  have hq : (Question.appendCap (n + m) k' e).forced = false := rfl
  have c1 : ¬ (((n + m : Nat) : Int) > IntKind.i64.max ∧ (False ∨ i.bytes = 0)) := by
    have : IntKind.i64.max = 9223372036854775807 := by decide
    rw [this]; omega
  have c2 : ¬ (Builtin.nextslicecap (n + m) k' * i.bytes > 2 ^ 48) := by
    have h1 := nextslicecap_le (n + m) k' (by omega)
    have h2 : Builtin.nextslicecap (n + m) k' * i.bytes ≤ 3 * (n + m) * i.bytes := Nat.mul_le_mul_right _ h1
    have h3 : 3 * (n + m) * i.bytes = 3 * ((n + m) * i.bytes) := Nat.mul_assoc _ _ _
    omega
  have hty : ∀ w, (typeInfo e).run P w = .ok i w := fun w => by simp [typeInfo, hi]
  have hsq : ∀ w, (sizeOf e).run P w = .ok size w := fun w => by simp [sizeOf, typeInfo, hi, hsz]
  simp only [Builtin.append_, h0, h1, h2, h3, Sem.run_bind, run_underlying hst, Result.andThen_ok, hsq, run_underlying hxt, Sem.run_pure, hzz, Bool.false_eq_true, if_false, hm, if_neg hn, hty, if_neg c1, if_neg c2, choose, Sem.run, hq, hcap, hask, hf { w with drawn := w.drawn + 1 } rfl, hf2 { w with drawn := w.drawn + 1 } rfl, Bool.not_false, if_true, hz, newRow, newObj]
  congr 2
  congr 1
  congr 1
  apply Array.ext'
  simp
theorem lenO_run {x x' : Value} {m : Nat} (hx : VR ι x x') (h : lenO x = some m) : (Builtin.lenOf x').run P w = .ok m w := by
  unfold lenO at h
  split at h
  · cases h; cases hx <;> rfl
  · cases h; cases hx; rfl
  · cases h
end Go.Proofs.YtehbekgmemebjaaDoorEv
namespace Go.Proofs.YtehbekgmemebjaaDoorEv
open Go
set_option linter.unusedVariables false
set_option linter.unusedSimpArgs false
variable {P : Program} {GL : List Nat} {ι : Inj} {H : Hp} {w : World}
theorem sliceCells_slice {size : Nat} {b o : Nat} {sp : Option Nat} {n k : Nat} {l : List Value} {cs : List Value} {u : UT} {ro : Bool} (h : sliceCells H size (.slice (some ⟨b, o, sp⟩) n k) = some l) (hg : H.get b = some (.cells cs u ro)) :
    l = (cs.drop o).take (n * size) ∧ (n = 0 ∨ o + n * size ≤ cs.length) := by
  unfold sliceCells at h
  simp only [hg] at h
  split at h
  · rename_i h0
    cases h
    subst h0
    exact ⟨by simp, .inl rfl⟩
  · split at h
    · cases h; exact ⟨rfl, .inr (by assumption)⟩
    · cases h
theorem sound_append {st xt ty e : TypeId} {i0 : TypeInfo} {z : Array Value} {xd : TypeDesc} {s x s' x' v : Value} {H' : Hp} (hst : P.underlying st = some (.slice e)) (hxt : P.underlying xt = some xd) (hxd : ∀ k, xd ≠ .int k) (hi0 : P.info? e = some i0) (hz : zeroOf P e = some z) (hs : VR ι s s') (hx : VR ι x x') (hw : WR GL ι H w)
    (h : appendO H e i0.size i0.bytes s x = some (v, H')) : Step GL ι H w v H' ((do pure (.value (← Builtin.append_ #[st, xt] ty #[s', x'])) : Sem Next).run P w) := by
  have hsq : sizeQ P e = some i0.size := by simp [sizeQ, hi0]
  obtain ⟨zv, hzr, hzc, hzf, _⟩ := zeroOf_run hz
  obtain ⟨i1, hi1, hzs⟩ := zeroOf_size hz
  rw [hi0] at hi1; cases hi1
  unfold appendO at h
  simp only [Option.bind_eq_bind] at h
  split at h
  case h_2 => cases h
  rename_i base n k
  simp only [Option.bind_eq_some_iff] at h
  obtain ⟨m, hm, new, hnew, h⟩ := h
  have hm' := lenO_run (P := P) (w := w) hx hm
  obtain ⟨l', hlv, hll, hlr⟩ := sliceCells_run (P := P) hx hw hnew m hm
  split at h
  · rename_i hnk
    -- in place
    split at h
    · simp only [Option.some.injEq, Prod.mk.injEq] at h
      obtain ⟨rfl, rfl⟩ := h
      cases hs
      have hm0 : m = 0 := by omega
      subst hm0
      refine Step.pure hw (v' := .slice none 0 0) ?_ .snil
      have := append_in_run (P := P) (w := w) (ty := ty) (a := none) hst hxt hxd hsq hm' (hlr w rfl) (n := 0) (k' := 0) (by omega) w rfl
      simp only [Sem.run_bind, this, Result.andThen_ok, Sem.run_pure]
    · rename_i b o sp
      split at h
      · rename_i cs u ro hg
        cases hs with
        | arg _ _ _ A k' hnk' ha => simp at h
        | slice _ _ _ _ _ i a k' hi hns hnk' hk ha =>
          rw [if_neg hns] at h
          have hkk : n + m ≤ k' := by rcases hk with hk | hk <;> omega
          split at h
          · rename_i hm0
            subst hm0
            simp only [Option.some.injEq, Prod.mk.injEq] at h
            obtain ⟨rfl, rfl⟩ := h
            have hl0 : l' = [] := by
              have := hlv.1
              rw [hll] at this
              simp at this
              exact List.eq_nil_of_length_eq_zero this.symm
            subst hl0
            refine Step.pure hw (v' := .slice (some a) n k') ?_ (.slice _ _ _ _ _ i a k' hi hns hnk' hk ha)
            have := append_in_run (P := P) (w := w) (ty := ty) (a := some a) hst hxt hxd hsq hm' (hlr w rfl) hkk w rfl
            simp only [Sem.run_bind, this, Result.andThen_ok, Sem.run_pure, Nat.add_zero]
          · rename_i hm0
            split at h
            · rename_i hcond
              obtain ⟨rfl, hle, hcells⟩ := hcond
              simp only [Option.some.injEq, Prod.mk.injEq] at h
              obtain ⟨rfl, rfl⟩ := h
              have hll' : new.length = m * i0.size := hll
              obtain ⟨w', hst', hw', hfr⟩ := store_both (P := P) hw hi hg (o := o + n * i0.size) hlv (by omega) (fun v hv => by
                rw [List.all_eq_true] at hcells
                exact hcells v hv)
              have hadd : a.add (n * i0.size) = ⟨i.c, i.d + (o + n * i0.size), none⟩ := by
                rw [ha (.inl (by omega)), add_plain', Nat.add_assoc]
              refine ⟨.slice (some a) (n + m) k', w', ι, .inl ?_, New.refl _ _ _, .slice _ _ _ _ _ i a k' hi hns hnk hk ha, hw', hfr, by rw [Hp.size_put]; exact Nat.le_refl _⟩
              have := append_in_run (P := P) (w := w) (ty := ty) (a := some a) hst hxt hxd hsq hm' (hlr w rfl) hkk w' (by show (storeCells (a.add (n * i0.size)) l').run P w = .ok () w'; rw [hadd]; exact hst')
              simp only [Sem.run_bind, this, Result.andThen_ok, Sem.run_pure]
            · cases h
      · cases h
  · rename_i hnk
    split at h
    · cases h
    · rename_i hlim
      simp only [not_or, Nat.not_lt, Bool.not_eq_false] at hlim
      obtain ⟨hb, hb8, hs0, hcells⟩ := hlim
      simp only [Option.bind_eq_some_iff] at h
      obtain ⟨old, hold, H1, hH1, h⟩ := h
      simp only [Option.some.injEq, Prod.mk.injEq] at h
      obtain ⟨rfl, rfl⟩ := h
      have hnl : lenO (.slice base n k) = some n := rfl
      obtain ⟨ol, holv, holl, holr⟩ := sliceCells_run (P := P) hs hw hold n hnl
      -- the program copies
      have copy : ∀ (a : Option Addr) (k' : Nat), s' = .slice a n k' → ¬ n + m ≤ k' → WR GL ι H1 w → H1.size = H.size →
          Step GL ι H w (.slice (some ⟨H.size, 0, none⟩) (n + m) (n + m)) (H1.new (.cells (old ++ new) ⟨i0.size, e, zO H base⟩ false)) ((do pure (.value (← Builtin.append_ #[st, xt] ty #[s', x'])) : Sem Next).run P w) := by
        intro a k' hs' hnk' hw1 hsz
        subst hs'
        obtain ⟨cap, rest, hcap, hcap2, hrest, hrun⟩ := append_grow_run (P := P) (w := w) (ty := ty) hst hxt hxd hi0 rfl hzr (by rw [hzc, hzs]) hm' hlr holr hnk' hb hb8
        have hon : (ol ++ l').length = (n + m) * i0.size := by
          rw [List.length_append, ← holv.1, ← hlv.1, holl, hll, Nat.add_mul]
        have hcn : ((ol ++ l') ++ rest).toArray.size = cap * i0.size := by
          simp only [List.size_toArray, List.length_append] at hon ⊢
          rw [hon, hrest, ← Nat.add_mul]
          congr 1
          omega
        obtain ⟨a1, a2, a3⟩ := step_cells hw1 (old ++ new) ((ol ++ l') ++ rest).toArray e ⟨i0.size, e, zO H base⟩ { w with drawn := w.drawn + 1 } rfl rfl rfl rfl (by
            have := (VL_append holv hlv).1
            simp only [List.size_toArray, List.length_append] at this ⊢
            omega) (fun j v hj => by
            obtain ⟨v', e1, e2⟩ := VL_get (VL_append holv hlv) hj
            refine ⟨v', ?_, e2⟩
            have hlt := (List.getElem?_eq_some_iff.1 e1).1
            simp only [List.getElem?_toArray]
            rw [List.getElem?_append_left hlt]
            exact e1) (0, 0) ⟨fun x _ => by simp, fun _ => rfl, rfl, fun h => absurd h hs0, fun _ _ => by
            rw [hcn]; exact Nat.mul_le_mul_right _ hcap2⟩ _ rfl
        rw [hsz] at a1 a2
        refine ⟨.slice (some ⟨w.heap.size, 0, none⟩) (n + m) cap, _, _, .inl ?_, a2, .slice _ _ _ _ _ _ _ _ (add_same _ _ _) (by simp) (Nat.le_refl _) ?_ (fun _ => by simp), a1, a3, by rw [Hp.size_new, hsz]; omega⟩
        · simp only [Sem.run_bind, hrun, Result.andThen_ok, Sem.run_pure]
        · right
          exact ⟨hs0, by simp, hcap, fun _ => by simp only [hcn]; omega⟩
      cases hs with
      | snil =>
        simp only [killO, Option.some.injEq] at hH1
        subst hH1
        exact copy none 0 rfl (by omega) hw rfl
      | arg b o _ A k' hnk' ha =>
        simp only [killO] at hH1
        split at hH1
        · simp at hH1
        · cases hH1
      | slice b o sp _ _ i a k' hi hns hnk' hk ha =>
        simp only [killO] at hH1
        split at hH1
        · rename_i cs u ro hg
          obtain ⟨iu, iro⟩ := obj_u hw hi hg
          rw [if_neg hns] at hH1
          split at hH1
          · rename_i hsp
            simp only [Option.some.injEq] at hH1
            subst hH1
            have hkk : k' = k := by
              rcases hk with hk | ⟨_, hk, _⟩
              · exact hk.2
              · exact absurd hsp hk
            exact copy (some a) k' rfl (by omega) hw rfl
          · rename_i hsp
            split at hH1
            · rename_i hu0
              simp only [Option.some.injEq] at hH1
              subst hH1
              have hkk : k' = k := by
                rcases hk with hk | ⟨hk, _⟩
                · exact hk.2
                · rw [iu] at hk; exact absurd hu0 hk
              exact copy (some a) k' rfl (by omega) hw rfl
            · rename_i hu0
              split at hH1
              · cases hH1
              · rename_i hro
                have hro' : ro = false := by simpa using hro
                subst hro'
                split at hH1
                · rename_i hus
                  simp only [Option.some.injEq] at hH1
                  subst hH1
                  by_cases hin : n + m ≤ k'
                  · -- in the same place, for the program
                    have hk0 : k' ≠ k := by omega
                    obtain ⟨_, hsp', _, hbound⟩ := hk.resolve_left fun h => hk0 h.2
                    have hbd := hbound iro
                    have hue : i.u = i0.size := by rw [iu]; exact hus.1
                    rw [hue] at hbd
                    obtain ⟨ob, hg', hkk⟩ := hw.obj b i hi
                    rw [hg] at hg'; cases hg'
                    obtain ⟨q1, q2, ccs, el, fr, h3, h4, h5, h6, h7⟩ := hkk
                    have hk1 : (n + m) * i0.size ≤ k' * i0.size := Nat.mul_le_mul_right _ hin
                    have e1 : (n + m) * i0.size = n * i0.size + m * i0.size := Nat.add_mul _ _ _
                    have hl' : l'.length = m * i0.size := by rw [← hlv.1, hll]
                    have hrun := run_storeCells_cells (P := P) i.c (i.d + (o + n * i0.size)) l' 0 w (fun j hj => by
                        simp only [World.cell?, h3]
                        simp
                        omega)
                      (fun j hj => by
                        have := (h5 rfl).1 (i.d + (o + n * i0.size) + 0 + j) (by omega)
                        simp only [World.frozen?, h3, Bool.and_eq_false_iff, decide_eq_false_iff_not]
                        by_cases hx : fr.1 ≤ i.d + (o + n * i0.size) + 0 + j
                        · exact .inr fun hy => this ⟨hx, hy⟩
                        · exact .inl hx)
                      (fun v' hv' => by
                        obtain ⟨j, hj, rfl⟩ := List.getElem_of_mem hv'
                        have hj' : j < new.length := by rw [hlv.1]; exact hj
                        have := hlv.2 j new[j] l'[j] (by rw [List.getElem?_eq_getElem]) (by rw [List.getElem?_eq_getElem])
                        rw [← this.cell]
                        rw [List.all_eq_true] at hcells
                        exact hcells _ (List.getElem_mem hj'))
                    obtain ⟨⟨ccs', a1, a2, a3⟩, b1, b2, b3, b4, b5⟩ := heap_setCells i.c l' (i.d + (o + n * i0.size) + 0) w ccs el fr h3
                    obtain ⟨eo, hoc⟩ := sliceCells_slice hold hg
                    let i' : BI := { c := i.c, d := i.d + o, u := i0.size, cn := i.cn, ro := false }
                    have hx := add_ext (i := i') hw.lt
                    obtain ⟨c1, c2, c3⟩ := hw.moved hi (by rw [hg]; rfl) q2 (.cells (old ++ new) ⟨i0.size, e, zO H (some ⟨b, o, sp⟩)⟩ false) i' rfl rfl (w.setCells i.c (i.d + (o + n * i0.size) + 0) l') b1 b2 ⟨⟨rfl, fun hz => by
                        simp only [zO, hg, Bool.and_eq_true, beq_iff_eq] at hz
                        have := q1.2 hz.1
                        show i.d + o = 0
                        omega⟩, rfl, ccs', el, fr, a1, by rw [a2]; exact h4, fun _ => ⟨by rw [a2]; exact (h5 rfl).1, fun hz => (by
                        simp only [zO, hg, Bool.and_eq_true, beq_iff_eq] at hz
                        exact (h5 rfl).2.1 hz.1), by rw [(h5 rfl).2.2.1]; exact hus.2, fun h0 => absurd h0 hs0, fun _ hz => (by
                        simp only [zO, hg, Bool.and_eq_true, beq_iff_eq] at hz
                        rw [a2, ← hus.1]
                        exact (h5 rfl).2.2.2.2 (by rw [hus.1]; exact hs0) hz.1)⟩, by
                        rw [a2]
                        show i.d + o + (old ++ new).length ≤ ccs.size
                        rw [List.length_append, holl, hll]
                        omega, fun j v hj => by
                        have e3 := a3 (i.d + o + j)
                        rw [List.getElem?_append] at hj
                        split at hj
                        · rename_i hjo
                          rw [holl] at hjo
                          rw [if_neg (by omega)] at e3
                          have hn0 : n ≠ 0 := by
                            intro h0; subst h0; simp at hjo
                          have hoc' := hoc.resolve_left hn0
                          have hcs : cs[o + j]? = some v := by
                            rw [eo, List.getElem?_take, if_pos hjo, List.getElem?_drop] at hj
                            exact hj
                          obtain ⟨v', e4, e5⟩ := h7 (o + j) v hcs
                          refine ⟨v', ?_, e5.ext hx⟩
                          show ccs'[i.d + o + j]? = some v'
                          rw [e3, show i.d + o + j = i.d + (o + j) by omega]
                          exact e4
                        · rename_i hjo
                          rw [holl] at hjo hj
                          have hjn : j - n * i0.size < new.length := (List.getElem?_eq_some_iff.1 hj).1
                          rw [hll] at hjn
                          rw [if_pos (by omega)] at e3
                          have hlt : j - n * i0.size < l'.length := by omega
                          refine ⟨l'[j - n * i0.size], ?_, (hlv.2 _ v _ hj (List.getElem?_eq_getElem hlt)).ext hx⟩
                          show ccs'[i.d + o + j]? = some _
                          rw [e3, show i.d + o + j - (i.d + (o + n * i0.size) + 0) = j - n * i0.size by omega]
                          exact List.getElem?_eq_getElem hlt⟩ b3 b4 b5
                    have haa := ha (.inl (by omega))
                    have hadd : a.add (n * i0.size) = ⟨i.c, i.d + (o + n * i0.size), none⟩ := by
                      rw [haa, add_plain', Nat.add_assoc]
                    refine ⟨.slice (some a) (n + m) k', _, _, .inl ?_, c2, .slice _ _ _ _ _ i' _ _ (add_same _ _ _) (by simp) (Nat.le_refl _) (.inr ⟨hs0, by simp, hin, fun _ => by
                        show i.d + o + 0 + k' * i0.size = i.cn
                        omega⟩) (fun _ => by rw [haa]; rfl), c1, c3, by rw [Hp.size_new, Hp.size_put]; omega⟩
                    have := append_in_run (P := P) (w := w) (ty := ty) (a := some a) hst hxt hxd hsq hm' (hlr w rfl) hin _ (by simp only; rw [hadd]; exact hrun)
                    simp only [Sem.run_bind, this, Result.andThen_ok, Sem.run_pure]
                  · exact copy (some a) k' rfl hin (hw.kill b) rfl
                · cases hH1
        · cases hH1
end Go.Proofs.YtehbekgmemebjaaDoorEv
