import Derived.Test.YtbjdbpkdkfkpeaaDoorEvB
namespace Go.Proofs.YtbjdbpkdkfkpeaaDoorEv
open Go
set_option linter.unusedVariables false
set_option linter.unusedSimpArgs false
def Inj.add (ι : Inj) (b : Nat) (i : BI) : Inj := fun x => if x = b then some i else ι x
theorem OK.mono {ι ι' : Inj} {i : BI} {o : AObj} {w w' : World} (h : OK ι i o w) (e : Ext ι ι') (hb : w'.heap[i.c]? = w.heap[i.c]?) : OK ι' i o w' := by
  cases o with
  | cells cs u ro =>
    obtain ⟨h1, h2, ccs, el, fr, h3, h4, h5, h6, h7⟩ := h
    exact ⟨h1, h2, ccs, el, fr, by rw [hb]; exact h3, h4, h5, h6, fun j v hj => by obtain ⟨v', a, b⟩ := h7 j v hj; exact ⟨v', a, b.ext e⟩⟩
  | map es k =>
    obtain ⟨h1, es', h2, h3, h4⟩ := h
    exact ⟨h1, es', by rw [hb]; exact h2, h3, fun j x y hx hy => by obtain ⟨a, b, c, d⟩ := h4 j x y hx hy; exact ⟨a, b, c, d.ext e⟩⟩
  | iter s p => exact ⟨h.1, h.2.1, by rw [hb]; exact h.2.2⟩
  | dead => trivial
theorem WR.lt {GL : List Nat} {ι : Inj} {H : Hp} {w : World} (h : WR GL ι H w) : ι H.size = none := by
  cases e : ι H.size with
  | none => rfl
  | some i => have := (h.dom _ _ e).1; omega
theorem add_ext {ι : Inj} {b : Nat} {i : BI} (h : ι b = none) : Ext ι (ι.add b i) := fun x j e => by
  unfold Inj.add
  split
  · subst_vars; rw [h] at e; cases e
  · exact e
theorem add_same (ι : Inj) (b : Nat) (i : BI) : ι.add b i b = some i := by simp [Inj.add]
theorem WR.alloc {GL : List Nat} {ι : Inj} {H : Hp} {w : World} (h : WR GL ι H w) (o : AObj) (obj : Obj) (i : BI) (w' : World) (hh : w'.heap = w.heap.push obj) (hc : i.c = w.heap.size) (hr : i.ro = false)
    (ho : OK (ι.add H.size i) i o w') (h1 : w'.os = w.os) (h2 : w'.tape = w.tape) (h3 : w'.output = w.output) :
    WR GL (ι.add H.size i) (H.new o) w' ∧ New ι (ι.add H.size i) H.size w ∧ Fr ι w w' := by
  have hx := add_ext (i := i) h.lt
  have hold : ∀ c, c < w.heap.size → w'.heap[c]? = w.heap[c]? := fun c hc => by rw [hh, Array.getElem?_push, if_neg (by omega)]
  refine ⟨⟨?_, ?_, ?_, ?_⟩, ⟨hx, ?_⟩, ⟨h1, h2, h3, by rw [hh]; simp, fun c hc _ => hold c hc⟩⟩
  · intro b j hb
    unfold Inj.add at hb
    split at hb
    · subst_vars; cases hb
      exact ⟨o, by rw [Hp.get_new, if_pos rfl], ho⟩
    · obtain ⟨o1, hg, hk⟩ := h.obj b j hb
      have := h.dom b j hb
      exact ⟨o1, by rw [Hp.get_new, if_neg (by omega)]; exact hg, hk.mono hx (hold _ this.2)⟩
  · intro b j hb
    unfold Inj.add at hb
    split at hb
    · subst_vars; cases hb
      exact ⟨by rw [Hp.size_new]; omega, by rw [hh]; simp; omega⟩
    · have := h.dom b j hb
      exact ⟨by rw [Hp.size_new]; omega, by rw [hh]; simp; omega⟩
  · intro b b' j j' hb hb' hne hl hl' hro
    have hd : ∀ x y, ι x = some y → y.c < w.heap.size := fun x y e => (h.dom x y e).2
    unfold Inj.add at hb hb'
    split at hb <;> split at hb'
    · subst_vars; exact absurd rfl hne
    · cases hb; have := hd _ _ hb'; omega
    · cases hb'; have := hd _ _ hb; omega
    · have d1 := h.dom _ _ hb
      have d2 := h.dom _ _ hb'
      rw [Hp.get_new, if_neg (by omega)] at hl hl'
      exact h.inj b b' j j' hb hb' hne hl hl' hro
  · intro g hg
    obtain ⟨j, e, r⟩ := h.glob g hg
    exact ⟨j, hx _ _ e, r⟩
  · intro b j hb h0
    unfold Inj.add at hb
    split at hb
    · subst_vars; cases hb
      exact ⟨Nat.le_refl _, hr, .inl (by omega)⟩
    · rw [hb] at h0; cases h0
theorem WR.change {GL : List Nat} {ι : Inj} {H : Hp} {w : World} (h : WR GL ι H w) {b : Nat} {i : BI} (hb : ι b = some i) (hl : live (H.get b) = true) (hr : i.ro = false) (o : AObj) (w' : World)
    (hsz : w'.heap.size = w.heap.size) (hold : ∀ c, c ≠ i.c → w'.heap[c]? = w.heap[c]?) (ho : OK ι i o w') (h1 : w'.os = w.os) (h2 : w'.tape = w.tape) (h3 : w'.output = w.output) :
    WR GL ι (H.put b o) w' ∧ Fr ι w w' := by
  refine ⟨⟨?_, ?_, ?_, h.glob⟩, ⟨h1, h2, h3, by omega, fun c hc hno => hold c fun e => hno b i hb hr e.symm⟩⟩
  · intro x j hx
    by_cases hxb : b = x
    · subst hxb
      rw [hb] at hx; cases hx
      exact ⟨o, by rw [Hp.get_put, if_pos rfl], ho⟩
    · obtain ⟨o1, hg, hk⟩ := h.obj x j hx
      refine ⟨o1, by rw [Hp.get_put, if_neg hxb]; exact hg, ?_⟩
      cases hd : live (H.get x) with
      | true => exact hk.mono (Ext.refl _) (hold _ (Ne.symm (h.inj b x i j hb hx hxb hl hd hr)))
      | false =>
        rw [hg] at hd
        cases o1 with
        | dead => trivial
        | _ => cases hd
  · intro x j hx
    have := h.dom x j hx
    exact ⟨by rw [Hp.size_put]; exact this.1, by omega⟩
  · intro x y j k hx hy hne hlx hly hro
    have e1 : live (H.get x) = true := by
      rw [Hp.get_put] at hlx
      by_cases e : b = x
      · subst e; exact hl
      · rwa [if_neg e] at hlx
    have e2 : live (H.get y) = true := by
      rw [Hp.get_put] at hly
      by_cases e : b = y
      · subst e; exact hl
      · rwa [if_neg e] at hly
    exact h.inj x y j k hx hy hne e1 e2 hro
theorem WR.moved {GL : List Nat} {ι : Inj} {H : Hp} {w : World} (h : WR GL ι H w) {b : Nat} {i : BI} (hb : ι b = some i) (hl : live (H.get b) = true) (hr : i.ro = false) (o : AObj) (i' : BI) (hc : i'.c = i.c) (hr' : i'.ro = false) (w' : World)
    (hsz : w'.heap.size = w.heap.size) (hold : ∀ c, c ≠ i.c → w'.heap[c]? = w.heap[c]?) (ho : OK (ι.add H.size i') i' o w') (h1 : w'.os = w.os) (h2 : w'.tape = w.tape) (h3 : w'.output = w.output) :
    WR GL (ι.add H.size i') ((H.put b .dead).new o) w' ∧ New ι (ι.add H.size i') H.size w ∧ Fr ι w w' := by
  have hx := add_ext (i := i') h.lt
  refine ⟨⟨?_, ?_, ?_, ?_⟩, ⟨hx, ?_⟩, ⟨h1, h2, h3, by omega, fun c hc hno => hold c fun e => hno b i hb hr e.symm⟩⟩
  · intro x j hxj
    unfold Inj.add at hxj
    split at hxj
    · subst_vars; cases hxj
      exact ⟨o, by rw [Hp.get_new, Hp.size_put, if_pos rfl], ho⟩
    · have hd := h.dom _ _ hxj
      rw [Hp.get_new, Hp.size_put, if_neg (by omega), Hp.get_put]
      by_cases hxb : b = x
      · exact ⟨.dead, by rw [if_pos hxb], trivial⟩
      · obtain ⟨o1, hg, hk⟩ := h.obj x j hxj
        refine ⟨o1, by rw [if_neg hxb]; exact hg, ?_⟩
        cases hd : live (H.get x) with
        | true => exact hk.mono hx (hold _ (Ne.symm (h.inj b x i j hb hxj hxb hl hd hr)))
        | false =>
          rw [hg] at hd
          cases o1 with
          | dead => trivial
          | _ => cases hd
  · intro x j hxj
    unfold Inj.add at hxj
    split at hxj
    · subst_vars; cases hxj
      have := (h.dom _ _ hb).2
      exact ⟨by rw [Hp.size_new, Hp.size_put]; omega, by omega⟩
    · have := h.dom _ _ hxj
      exact ⟨by rw [Hp.size_new, Hp.size_put]; omega, by omega⟩
  · intro x y j k hxj hyk hne hlx hly hro
    have live_old : ∀ z l, ι z = some l → z ≠ b → live (((H.put b .dead).new o).get z) = true → live (H.get z) = true := fun z l hz hzb hlz => by
      have := h.dom _ _ hz
      rw [Hp.get_new, Hp.size_put, if_neg (by omega), Hp.get_put, if_neg (Ne.symm hzb)] at hlz
      exact hlz
    have not_b : ∀ l, ι b = some l → live (((H.put b .dead).new o).get b) = true → False := fun l hz hlz => by
      have := h.dom _ _ hz
      rw [Hp.get_new, Hp.size_put, if_neg (by omega), Hp.get_put, if_pos rfl] at hlz
      cases hlz
    unfold Inj.add at hxj hyk
    split at hxj <;> split at hyk
    · subst_vars; exact absurd rfl hne
    · cases hxj
      have hyb : y ≠ b := fun e => by subst e; exact not_b _ hyk hly
      rw [hc]
      exact h.inj b y i k hb hyk (Ne.symm hyb) hl (live_old _ _ hyk hyb hly) hr
    · cases hyk
      have hxb : x ≠ b := fun e => by subst e; exact not_b _ hxj hlx
      rw [hc]
      exact h.inj x b j i hxj hb hxb (live_old _ _ hxj hxb hlx) hl hro
    · have hxb : x ≠ b := fun e => by subst e; exact not_b _ hxj hlx
      have hyb : y ≠ b := fun e => by subst e; exact not_b _ hyk hly
      exact h.inj x y j k hxj hyk hne (live_old _ _ hxj hxb hlx) (live_old _ _ hyk hyb hly) hro
  · intro g hg
    obtain ⟨j, e, r⟩ := h.glob g hg
    exact ⟨j, hx _ _ e, r⟩
  · intro x j hxj h0
    unfold Inj.add at hxj
    split at hxj
    · subst_vars; cases hxj
      exact ⟨Nat.le_refl _, hr', .inr ⟨b, i, hb, hr, hc.symm⟩⟩
    · rw [hxj] at h0; cases h0
theorem WR.same {GL : List Nat} {ι : Inj} {H : Hp} {w w' : World} (h : WR GL ι H w) (hh : w'.heap = w.heap) : WR GL ι H w' :=
  ⟨fun b i hb => by obtain ⟨o, a, k⟩ := h.obj b i hb; exact ⟨o, a, k.mono (Ext.refl _) (by rw [hh])⟩, fun b i hb => by rw [hh]; exact h.dom b i hb, h.inj, h.glob⟩
theorem Fr.same {ι : Inj} {w w' : World} (hh : w'.heap = w.heap) (h1 : w'.os = w.os) (h2 : w'.tape = w.tape) (h3 : w'.output = w.output) : Fr ι w w' := ⟨h1, h2, h3, by rw [hh]; exact Nat.le_refl _, fun c _ _ => by rw [hh]⟩
theorem WR.kill {GL : List Nat} {ι : Inj} {H : Hp} {w : World} (h : WR GL ι H w) (b : Nat) : WR GL ι (H.put b .dead) w := by
  refine ⟨?_, fun x i hx => h.dom x i hx, ?_, h.glob⟩
  · intro x i hx
    by_cases e : b = x
    · exact ⟨.dead, by rw [Hp.get_put, if_pos e], trivial⟩
    · obtain ⟨o, hg, hk⟩ := h.obj x i hx
      exact ⟨o, by rw [Hp.get_put, if_neg e]; exact hg, hk⟩
  · intro x y i j hx hy hne hlx hly hro
    have keep : ∀ z, live ((H.put b .dead).get z) = true → live (H.get z) = true := fun z hz => by
      rw [Hp.get_put] at hz
      by_cases e : b = z
      · rw [if_pos e] at hz; cases hz
      · rwa [if_neg e] at hz
    exact h.inj x y i j hx hy hne (keep x hlx) (keep y hly) hro
def Step (GL : List Nat) (ι : Inj) (H : Hp) (w : World) (v : Value) (H' : Hp) (r : Result Next) : Prop :=
  ∃ v' w' ι', (r = .ok (.value v') w' ∨ (r = .ok .skip w' ∧ v' = undef)) ∧ New ι ι' H.size w ∧ VR ι' v v' ∧ WR GL ι' H' w' ∧ Fr ι w w' ∧ H.size ≤ H'.size
theorem Step.pure {GL : List Nat} {ι : Inj} {H : Hp} {w : World} {v v' : Value} {r : Result Next} (h : WR GL ι H w) (hr : r = .ok (.value v') w) (hv : VR ι v v') : Step GL ι H w v H r :=
  ⟨v', w, ι, .inl hr, New.refl _ _ _, hv, h, Fr.refl _ _, Nat.le_refl _⟩
theorem cell_of {GL : List Nat} {ι : Inj} {H : Hp} {w : World} (h : WR GL ι H w) {b : Nat} {i : BI} (hb : ι b = some i) {cs : List Value} {u : UT} {ro : Bool} (hg : H.get b = some (.cells cs u ro)) {j : Nat} {v : Value} (hj : cs[j]? = some v) :
    ∃ v', w.cell? ⟨i.c, i.d + j, none⟩ = some v' ∧ VR ι v v' := by
  obtain ⟨o, hg', hk⟩ := h.obj b i hb
  rw [hg] at hg'; cases hg'
  obtain ⟨_, _, ccs, e, fr, h3, h4, h5, h6, h7⟩ := hk
  obtain ⟨v', a, r⟩ := h7 j v hj
  exact ⟨v', by simp [World.cell?, h3, a], r⟩
theorem add_plain' (c o n : Nat) : (⟨c, o, none⟩ : Addr).add n = ⟨c, o + n, none⟩ := by
  unfold Addr.add; split <;> simp_all
theorem cells_of {GL : List Nat} {ι : Inj} {H : Hp} {w : World} (h : WR GL ι H w) {b : Nat} {i : BI} (hb : ι b = some i) {cs : List Value} {u : UT} {ro : Bool} (hg : H.get b = some (.cells cs u ro)) {o n : Nat} (hn : o + n ≤ cs.length) :
    ∃ l, l.length = n ∧ VL ι ((cs.drop o).take n) l ∧ ∀ j v, l[j]? = some v → w.cell? ((⟨i.c, i.d + o, none⟩ : Addr).add j) = some v := by
  obtain ⟨ob, hg', hk⟩ := h.obj b i hb
  rw [hg] at hg'; cases hg'
  obtain ⟨_, _, ccs, e, fr, h3, h4, h5, h6, h7⟩ := hk
  refine ⟨(ccs.toList.drop (i.d + o)).take n, by simp; omega, ⟨by simp; omega, ?_⟩, ?_⟩
  · intro j v v' e1 e2
    rw [List.getElem?_take] at e1 e2
    split at e1
    · rw [if_pos (by assumption)] at e2
      rw [List.getElem?_drop] at e1 e2
      obtain ⟨v1, a, r⟩ := h7 (o + j) v e1
      rw [show i.d + (o + j) = i.d + o + j by omega] at a
      rw [Array.getElem?_toList, a] at e2
      cases e2
      exact r
    · cases e1
  · intro j v e2
    rw [List.getElem?_take] at e2
    split at e2
    · rw [List.getElem?_drop, Array.getElem?_toList] at e2
      rw [add_plain']
      simp [World.cell?, h3, e2]
    · cases e2
end Go.Proofs.YtbjdbpkdkfkpeaaDoorEv
