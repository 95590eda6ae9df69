import Derived.Test.YtehbekgmemebjaaDoorEvH
import Derived.MapKept
namespace Go.Proofs.YtehbekgmemebjaaDoorEv
open Go
set_option linter.unusedVariables false
set_option linter.unusedSimpArgs false
variable {P : Program} {GL : List Nat} {ι : Inj} {H : Hp} {w : World}
theorem set_both (hw : WR GL ι H w) {r : Nat} {i : BI} (hi : ι r = some i) (hl : live (H.get r) = true) (hr : i.ro = false) (o : AObj) (obj : Obj) (ho : ∀ w' : World, w'.heap[i.c]? = some obj → OK ι i o w') :
    WR GL ι (H.put r o) { w with heap := w.heap.setIfInBounds i.c obj } ∧ Fr ι w { w with heap := w.heap.setIfInBounds i.c obj } := by
  have hlt := (hw.dom r i hi).2
  refine hw.change hi hl hr o _ (by simp) (fun c hc => by simp [Array.getElem?_setIfInBounds, Ne.symm hc]) (ho _ (by simp [hlt])) rfl rfl rfl
theorem sameK_bits {kd : Nat} {k k2 : Value} (hk : keyIs kd k = true) (hf : fits k k2 = true) (hs : sameK k k2 = true) : k2 = k := by
  cases k <;> cases k2 <;> simp [fits, sameK] at hf hs
  · subst hs; rfl
  · subst hf; subst hs; rfl
  · rw [(MapKept.bytes_beq _ _).1 hs]
theorem keyThatStays_run {k : Value} {kd : Nat} (hk : keyIs kd k = true) : (Instr.keyThatStays k k).run P w = .ok k w := by
  have : Instr.sameBits 10000 k k = true := by
    cases k <;> simp [Instr.sameBits] <;> first | exact (MapKept.bytes_beq _ _).2 rfl | (cases kd with
       | zero => simp [keyIs] at hk
       | succ kd => cases kd with
         | zero => simp [keyIs] at hk
         | succ kd => cases kd <;> simp [keyIs] at hk)
  simp only [Instr.keyThatStays, this, if_true, Sem.run_pure]
theorem found_at {k : Value} {es : List MapEntry} {j : Nat} (hf : es.findIdx? (fun e => sameK k e.key) = some j) : ∃ e, es[j]? = some e ∧ sameK k e.key = true := by
  obtain ⟨h1, h2, _⟩ := List.findIdx?_eq_some_iff_getElem.1 hf
  exact ⟨es[j], List.getElem?_eq_getElem h1, h2⟩
theorem sound_mapUpd {t kt et : TypeId} {kd : Nat} {r c : Nat} {es : List MapEntry} {m' k k' x x' v : Value} {H' : Hp} (hu : P.underlying t = some (.map kt et)) (hk : keyKind P kt = some kd) (hm : VR ι (.map (some r)) m') (hkr : VR ι k k') (hx : VR ι x x') (hw : WR GL ι H w)
    (hg : H.get r = some (.map es c)) (hfit : fitsAll kd k es = true)
    (h : (match es.findIdx? fun e => sameK k e.key with
          | some i => some (OR.ok undef (H.put r (.map (es.modify i fun e => { e with key := k, val := x }) c)))
          | none => some (.ok undef (H.put r (.map (es ++ [{ key := k, val := x, born := c }]) (c + 1))))) = some (.ok v H')) : Step GL ι H w v H' ((do Instr.mapUpdate t m' k' x'; pure .skip : Sem Next).run P w) := by
  cases hm with
  | map _ i hi =>
    have hki : keyIs kd k = true := by simp only [fitsAll, Bool.and_eq_true] at hfit; exact hfit.1
    have := keyIs_VR hkr hki
    subst this
    obtain ⟨hro, es', hh, hlen, hrel⟩ := map_of hw hi hg
    have hkeys := map_keys hlen hrel
    have hfit' := hfit
    rw [fits_same hkeys] at hfit'
    have hfk := findKey_run (P := P) (w := w) hk hfit'
    have hget : (getObj i.c).run P w = .ok (.map es' c) w := by simp [getObj, Sem.run, hh]
    have hset : ∀ o, (setObj i.c o).run P w = .ok () { w with heap := w.heap.setIfInBounds i.c o } := by intro o; simp [setObj, Sem.run, hh]
    have hsame := find_same (k := k') hkeys
    cases hf : es.findIdx? (fun e => sameK k' e.key) with
    | none =>
      rw [hf] at h hsame
      simp only [Option.some.injEq, OR.ok.injEq] at h
      obtain ⟨rfl, rfl⟩ := h
      rw [← hsame] at hfk
      obtain ⟨a1, a2⟩ := set_both hw hi (by rw [hg]; rfl) hro (.map (es ++ [{ key := k', val := x, born := c }]) (c + 1)) (.map (es'.push { key := k', val := x', born := c }) (c + 1)) (fun w' hw' => ⟨hro, _, hw', by simp [hlen], fun j e e' he he' => by
        rw [List.getElem?_append] at he
        rw [Array.getElem?_push] at he'
        split at he
        · rename_i hlt
          rw [if_neg (by omega)] at he'
          exact hrel j e e' he he'
        · rename_i hlt
          by_cases hj : j = es.length
          · subst hj
            rw [if_pos (by omega)] at he'
            simp at he he'
            subst he; subst he'
            exact ⟨rfl, rfl, keyIs_O hki, hx⟩
          · rw [List.getElem?_eq_none (by simp; omega)] at he
            cases he⟩)
      refine ⟨undef, _, ι, .inr ⟨?_, rfl⟩, New.refl _ _ _, undefVR _, a1, a2, by rw [Hp.size_put]; exact Nat.le_refl _⟩
      simp only [Instr.mapUpdate, Sem.run_bind, run_underlying hu, Result.andThen_ok, hget, checkKey_run hk hki, hfk, Option.bind_none, hset, Sem.run_pure]
    | some j =>
      obtain ⟨ee, he1, hsk⟩ := found_at hf
      rw [hf] at h hsame
      simp only [Option.some.injEq, OR.ok.injEq] at h
      obtain ⟨rfl, rfl⟩ := h
      rw [← hsame] at hfk
      have hjl : j < es.length := (List.getElem?_eq_some_iff.1 he1).1
      have e2 : es'[j]? = some (es'[j]'(by omega)) := Array.getElem?_eq_getElem (by omega)
      have e3 : es'.toList[j]? = some (es'[j]'(by omega)) := by first | (simp; done) | (simp; omega)
      have hkey : (es'[j]'(by omega)).key = k' := by
        rw [← (hrel j _ _ he1 e2).2.1]
        refine sameK_bits hki ?_ hsk
        simp only [fitsAll, Bool.and_eq_true, List.all_eq_true] at hfit
        exact hfit.2 ee (List.mem_of_getElem? he1)
      simp only [Option.bind_some, e3, Option.map_some] at hfk
      obtain ⟨a1, a2⟩ := set_both hw hi (by rw [hg]; rfl) hro (.map (es.modify j fun e => { e with key := k', val := x }) c) (.map (es'.modify j fun e => { e with key := k', val := x' }) c) (fun w' hw' => ⟨hro, _, hw', by simp [hlen], fun q e e' he he' => by
        rw [List.getElem?_modify] at he
        rw [Array.getElem?_modify] at he'
        by_cases hjq : j = q
        · subst hjq
          simp only [if_true, he1, e2, Option.map_eq_map, Option.map_some, Option.some.injEq] at he he'
          subst he; subst he'
          exact ⟨(hrel j _ _ he1 e2).1, rfl, keyIs_O hki, hx⟩
        · simp only [if_neg hjq, Option.map_eq_map] at he he'
          cases e4 : es[q]? with
          | none => rw [e4] at he; simp at he
          | some z =>
            rw [e4] at he
            simp only [Option.map_some, Option.some.injEq] at he
            subst he
            exact hrel q z e' e4 he'⟩)
      refine ⟨undef, _, ι, .inr ⟨?_, rfl⟩, New.refl _ _ _, undefVR _, a1, a2, by rw [Hp.size_put]; exact Nat.le_refl _⟩
      simp only [Instr.mapUpdate, Sem.run_bind, run_underlying hu, Result.andThen_ok, hget, checkKey_run hk hki, hfk, e2, Option.map_some, Option.getD_some, hkey, keyThatStays_run hki, hset, Sem.run_pure]
theorem sound_rangeS {t : TypeId} {s : ByteArray} (hu : P.underlying t = some .string) (hw : WR GL ι H w) :
    Step GL ι H w (.pointer (some ⟨H.size, 0, none⟩)) (H.new (.iter s 0)) ((do pure (.value (← Instr.range t (.string s))) : Sem Next).run P w) := by
  obtain ⟨a, b, c⟩ := hw.alloc (.iter s 0) (.stringIter s 0) { c := w.heap.size, d := 0, u := 0, cn := 0, ro := false } { w with heap := w.heap.push (.stringIter s 0) } rfl rfl rfl ⟨rfl, rfl, by simp⟩ rfl rfl rfl
  refine ⟨.pointer (some ⟨w.heap.size, 0, none⟩), _, _, .inl ?_, b, .ptr _ _ _ (add_same _ _ _), a, c, by rw [Hp.size_new]; omega⟩
  simp [Instr.range, run_underlying hu, newObj, Sem.run]
theorem sound_nextS {r : Nat} {s : ByteArray} {pos : Nat} {x' v : Value} {H' : Hp} {ty : TypeId} (hx : VR ι (.pointer (some ⟨r, 0, none⟩)) x') (hw : WR GL ι H w) (hg : H.get r = some (.iter s pos))
    (h : (if pos < s.size then some (OR.ok (.tuple #[.bool true, .int .i64 pos, .int .i32 (Utf8.decode s pos).1]) (H.put r (.iter s (pos + (Utf8.decode s pos).2)))) else some (.ok (.tuple #[.bool false]) H)) = some (.ok v H')) :
    Step GL ι H w v H' ((do pure (.value (← Instr.next x' true ty)) : Sem Next).run P w) := by
  cases hx with
  | ptr _ _ i hi =>
    obtain ⟨o, hg', hk⟩ := hw.obj r i hi
    rw [hg] at hg'; cases hg'
    obtain ⟨hro, hd0, hh⟩ := hk
    have hget : (getObj i.c).run P w = .ok (.stringIter s pos) w := by simp [getObj, Sem.run, hh]
    have hset : ∀ o, (setObj i.c o).run P w = .ok () { w with heap := w.heap.setIfInBounds i.c o } := by intro o; simp [setObj, Sem.run, hh]
    split at h
    · rename_i hlt
      simp only [Option.some.injEq, OR.ok.injEq] at h
      obtain ⟨rfl, rfl⟩ := h
      obtain ⟨a1, a2⟩ := set_both hw hi (by rw [hg]; rfl) hro (.iter s (pos + (Utf8.decode s pos).2)) (.stringIter s (pos + (Utf8.decode s pos).2)) (fun w' hw' => ⟨hro, hd0, hw'⟩)
      refine ⟨_, _, ι, .inl ?_, New.refl _ _ _, flatVR ι 3 _ (by simp [flat]), a1, a2, by rw [Hp.size_put]; exact Nat.le_refl _⟩
      simp only [Instr.next, hd0, Nat.add_zero, Sem.run_bind, hget, Result.andThen_ok, if_pos hlt, hset, Sem.run_pure, goInt]
    · rename_i hlt
      simp only [Option.some.injEq, OR.ok.injEq] at h
      obtain ⟨rfl, rfl⟩ := h
      refine Step.pure hw (v' := .tuple #[.bool false]) ?_ (flatVR ι 3 _ (by simp [flat]))
      simp only [Instr.next, hd0, Nat.add_zero, Sem.run_bind, hget, Result.andThen_ok, if_neg hlt, Sem.run_pure]
theorem sound_assert {t xt : TypeId} {zero v : Value} {x x' : Value} {ok : Bool} (hu : ∃ d, P.underlying t = some d ∧ ∀ ms, d ≠ .interface ms) (hz : zeroVal P t = some zero) (hx : VR ι x x')
    (h : (match x with
    | .iface u v => if u = t then some (OR.ok (if ok then .tuple #[v, .bool true] else v) H) else if ok then some (.ok (.tuple #[zero, .bool false]) H) else none
    | .nilIface => if ok then some (.ok (.tuple #[zero, .bool false]) H) else none
    | _ => none) = some (.ok v H)) : ∃ v', (Instr.typeAssert x' xt t ok).run P w = .ok v' w ∧ VR ι v v' := by
  obtain ⟨d, hd, hni⟩ := hu
  obtain ⟨hzr, hzf⟩ := zeroVal_run hz
  have hzv := flatVR ι 3 zero hzf
  have pair : ∀ a a', VR ι a a' → ∀ b, VR ι (.tuple #[a, .bool b]) (.tuple #[a', .bool b]) := by
    intro a a' ha b
    refine .tuple _ _ rfl fun j u u' e e' => ?_
    match j with
    | 0 => simp at e e'; subst e; subst e'; exact ha
    | 1 => simp at e e'; subst e; subst e'; exact .bool b
    | j + 2 => simp at e
  split at h
  · rename_i u y
    cases hx with
    | iface _ _ y' hy =>
      split at h
      · rename_i hut
        subst hut
        simp only [Option.some.injEq, OR.ok.injEq, and_true] at h
        subst h
        refine ⟨if ok then .tuple #[y', .bool true] else y', ?_, ?_⟩
        · cases d <;> first
            | exact absurd rfl (hni _)
            | simp only [Instr.typeAssert, Sem.run_bind, run_underlying hd, Result.andThen_ok, if_true, Sem.run_pure]
        · cases ok with
          | true => exact pair _ _ hy true
          | false => exact hy
      · rename_i hut
        split at h
        · rename_i hok
          simp only [Option.some.injEq, OR.ok.injEq, and_true] at h
          subst h
          refine ⟨_, ?_, pair _ _ hzv false⟩
          cases d <;> first
            | exact absurd rfl (hni _)
            | simp only [Instr.typeAssert, Sem.run_bind, run_underlying hd, Result.andThen_ok, if_neg hut, hok, if_true, hzr, Sem.run_pure]
        · cases h
  · cases hx
    split at h
    · rename_i hok
      simp only [Option.some.injEq, OR.ok.injEq, and_true] at h
      subst h
      refine ⟨_, ?_, pair _ _ hzv false⟩
      cases d <;> first
        | exact absurd rfl (hni _)
        | simp only [Instr.typeAssert, Sem.run_bind, run_underlying hd, Result.andThen_ok, hok, if_true, hzr, Sem.run_pure]
    · cases h
  · cases h
end Go.Proofs.YtehbekgmemebjaaDoorEv
