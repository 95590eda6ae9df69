import Derived.Test.YtehbekgmemebjaaDoorEvS
import Derived.Test.YtehbekgmemebjaaDoorWWords
namespace Go.Proofs.YtehbekgmemebjaaDoorEv
open Go Go.RowKit Go.Proofs.YtehbekgmemebjaaDoorW.PrintWords
set_option linter.unusedVariables false
set_option linter.unusedSimpArgs false
variable {P : Program} {GL : List Nat} {ι : Inj} {H : Hp} {w : World}
def AllRo (ι : Inj) : Prop := ∀ b i, ι b = some i → i.ro = true
theorem Fr.below {w' : World} (hr : AllRo ι) (h : Fr ι w w') : Below w.heap.size w w' :=
  ⟨h.os, h.tape, h.output, h.size, fun c hc => h.block c hc fun b i hb hro => by rw [hr b i hb] at hro; cases hro⟩
theorem WR.empty (w : World) : WR [] (fun _ => none) ⟨0, .nil⟩ w where
  obj := fun b i h => by cases h
  dom := fun b i h => by cases h
  inj := fun b b' i i' h => by cases h
  glob := fun g hg => by cases hg
theorem AllRo.empty : AllRo (fun _ => none) := fun b i h => by cases h
theorem WR.view (h : WR GL ι H w) (hr : AllRo ι) {c d : Nat} {cs : List Value} {ccs : Array Value} {e : TypeId} {fr : Nat × Nat} (hb : w.heap[c]? = some (.cells ccs e fr)) (hl : d + cs.length ≤ ccs.size)
    (hv : ∀ j v, cs[j]? = some v → ∃ v', ccs[d + j]? = some v' ∧ VR ι v v') :
    WR GL (ι.add H.size ⟨c, d, 0, ccs.size, true⟩) (H.new (.cells cs ⟨0, 0, false⟩ true)) w := by
  have hx := add_ext (i := ⟨c, d, 0, ccs.size, true⟩) h.lt
  have hlt : c < w.heap.size := (Array.getElem?_eq_some_iff.1 hb).1
  refine ⟨?_, ?_, ?_, ?_⟩
  · intro b j hj
    unfold Inj.add at hj
    split at hj
    · subst_vars; cases hj
      refine ⟨.cells cs ⟨0, 0, false⟩ true, by rw [Hp.get_new, if_pos rfl], ⟨rfl, fun h => (by cases h)⟩, rfl, ccs, e, fr, hb, rfl, fun h => (by cases h), hl, fun j v hv' => ?_⟩
      obtain ⟨v', a, b⟩ := hv j v hv'
      exact ⟨v', a, b.ext hx⟩
    · obtain ⟨o1, hg, hk⟩ := h.obj b j hj
      have := h.dom b j hj
      exact ⟨o1, by rw [Hp.get_new, if_neg (by omega)]; exact hg, hk.mono hx rfl⟩
  · intro b j hj
    unfold Inj.add at hj
    split at hj
    · subst_vars; cases hj
      exact ⟨by rw [Hp.size_new]; omega, hlt⟩
    · have := h.dom b j hj
      exact ⟨by rw [Hp.size_new]; omega, this.2⟩
  · intro b b' j j' hj hj' hne hl1 hl2 hro
    unfold Inj.add at hj hj'
    split at hj <;> split at hj'
    · subst_vars; exact absurd rfl hne
    · cases hj; cases hro
    · rw [hr _ _ hj] at hro; cases hro
    · have d1 := h.dom _ _ hj
      have d2 := h.dom _ _ hj'
      rw [Hp.get_new, if_neg (by omega)] at hl1 hl2
      exact h.inj b b' j j' hj hj' hne hl1 hl2 hro
  · intro g hg
    obtain ⟨j, e1, r⟩ := h.glob g hg
    exact ⟨j, hx _ _ e1, r⟩
theorem AllRo.add (h : AllRo ι) {n : Nat} {i : BI} (hi : i.ro = true) : AllRo (ι.add n i) := by
  intro b j hj
  unfold Inj.add at hj
  split at hj
  · cases hj; exact hi
  · exact h b j hj
theorem WR.ghost (h : WR GL ι H w) (o : AObj) : WR GL ι (H.new o) w := by
  refine ⟨?_, ?_, ?_, h.glob⟩
  · intro b j hj
    obtain ⟨o1, hg, hk⟩ := h.obj b j hj
    have := h.dom b j hj
    exact ⟨o1, by rw [Hp.get_new, if_neg (by omega)]; exact hg, hk⟩
  · intro b j hj
    have := h.dom b j hj
    exact ⟨by rw [Hp.size_new]; omega, this.2⟩
  · intro b b' j j' hj hj' hne hl1 hl2 hro
    have d1 := h.dom _ _ hj
    have d2 := h.dom _ _ hj'
    rw [Hp.get_new, if_neg (by omega)] at hl1 hl2
    exact h.inj b b' j j' hj hj' hne hl1 hl2 hro
theorem WR.globs (h : WR GL ι H w) {GL' : List Nat} (hg : ∀ g, g ∈ GL' → ∃ i, ι g = some i ∧ i.c = g ∧ i.d = 0) : WR GL' ι H w := ⟨h.obj, h.dom, h.inj, hg⟩
theorem flat_eq {v v' : Value} (h : VR ι v v') (hf : flat 0 v = true) : v' = v := by
  cases h <;> first | rfl | simp [flat] at hf
structure FK {α : Type} (d : Kd α) (enc : α → List Value) : Prop where
  K : ∀ w x cs, d.K w x cs → cs = enc x
  M : ∀ w base ok x, d.M w base ok x (enc x)
  flat : ∀ x v, v ∈ enc x → flat 0 v = true
  len : ∀ x, (enc x).length = d.sz
  pos : 0 < d.sz
theorem FK.int (k : IntKind) : FK (Kd.int k) (fun n => [.int k n]) := ⟨fun _ _ _ h => h, fun _ _ _ _ => rfl, fun x v hv => by simp at hv; subst hv; rfl, fun _ => rfl, Nat.one_pos⟩
theorem FK.bool : FK Kd.bool (fun b => [.bool b]) := ⟨fun _ _ _ h => h, fun _ _ _ _ => rfl, fun x v hv => by simp at hv; subst hv; rfl, fun _ => rfl, Nat.one_pos⟩
theorem FK.string : FK Kd.string (fun b => [.string b]) := ⟨fun _ _ _ h => h, fun _ _ _ _ => rfl, fun x v hv => by simp at hv; subst hv; rfl, fun _ => rfl, Nat.one_pos⟩
section
variable {α : Type} {d : Kd α} {enc : α → List Value}
theorem FK.length (hf : FK d enc) (xs : List α) : (xs.flatMap enc).length = xs.length * d.sz := by
  induction xs with
  | nil => simp
  | cons x r ih => rw [List.flatMap_cons, List.length_append, ih, hf.len, List.length_cons, Nat.add_mul]; omega
theorem FK.get (hf : FK d enc) : ∀ (xs : List α) (j i : Nat), i < d.sz → (xs.flatMap enc)[j * d.sz + i]? = (xs[j]?).bind fun x => (enc x)[i]? := by
  intro xs
  induction xs with
  | nil => intro j i h; simp
  | cons x r ih =>
    intro j i h
    rw [List.flatMap_cons, List.getElem?_append, hf.len]
    cases j with
    | zero => rw [if_pos (by omega)]; simp
    | succ j =>
      rw [if_neg (by rw [Nat.add_mul]; omega), show (j + 1) * d.sz + i - d.sz = j * d.sz + i by rw [Nat.add_mul]; omega, ih j i h]
      simp
theorem FK.reps (hf : FK d enc) (w : World) (base : Nat) (ok : Nat → Prop) (xs : List α) : Reps (d.M w base ok) d.sz xs (xs.flatMap enc) := by
  refine ⟨hf.length xs, fun j p hp => ?_⟩
  have e : ((xs.flatMap enc).drop (j * d.sz)).take d.sz = enc p := by
    apply List.ext_getElem?
    intro i
    rw [List.getElem?_take]
    split
    · rename_i hi
      rw [List.getElem?_drop, hf.get xs j i hi, hp]
      rfl
    · rename_i hi
      rw [List.getElem?_eq_none (by rw [hf.len]; omega)]
  rw [e]
  exact hf.M w base ok p
theorem view_arg (hf : FK d enc) {A : Option Addr} {c : Nat} {xs : List α} (hC : Kd.C d w A xs.length xs) (hc : xs.length ≤ c) (hw : WR GL ι H w) (hr : AllRo ι) :
    ∃ ι', Ext ι ι' ∧ AllRo ι' ∧ WR GL ι' (H.new (.cells (xs.flatMap enc) ⟨0, 0, false⟩ true)) w ∧ VR ι' (.slice (some ⟨H.size, 0, some 2⟩) xs.length xs.length) (.slice A xs.length c) := by
  rcases Nat.eq_zero_or_pos xs.length with h0 | h0
  · exact ⟨ι, Ext.refl _, hr, hw.ghost _, .arg _ _ _ _ _ hc fun h => absurd h0 h⟩
  · obtain ⟨h1, h2, h3⟩ := hC
    obtain ⟨ad, rfl, hcells⟩ := h3 h0
    have cell : ∀ q v, (xs.flatMap enc)[q]? = some v → w.cell? (ad.add q) = some v ∧ flat 0 v = true := by
      intro q v hq
      have hi : q % d.sz < d.sz := Nat.mod_lt _ hf.pos
      have e : q / d.sz * d.sz + q % d.sz = q := by rw [Nat.mul_comm]; exact Nat.div_add_mod q d.sz
      have hg := hf.get xs (q / d.sz) (q % d.sz) hi
      rw [e, hq] at hg
      cases hx : xs[q / d.sz]? with
      | none => rw [hx] at hg; cases hg
      | some x =>
        rw [hx] at hg
        obtain ⟨c', hcl, hk, hcc⟩ := hcells _ _ hx
        have := hf.K _ _ _ hk
        subst this
        have hg' : (enc x)[q % d.sz]? = some v := hg.symm
        have := hcc (q % d.sz) v hg'
        rw [e] at this
        exact ⟨this, hf.flat x v (List.mem_of_getElem? hg')⟩
    have hlen := hf.length xs
    have hp : 0 < xs.length * d.sz := Nat.mul_pos h0 hf.pos
    obtain ⟨hc0, _⟩ := cell 0 ((xs.flatMap enc)[0]'(by omega)) (by rw [List.getElem?_eq_getElem])
    have hadd0 : ad.add 0 = ad := by simp [Addr.add]
    rw [hadd0] at hc0
    obtain ⟨blk, off, spot⟩ := ad
    cases hb : w.heap[blk]? with
    | none => simp [World.cell?, hb] at hc0
    | some o =>
      cases o with
      | cells ccs e fr =>
        have hs : spot = none := by
          cases spot with
          | none => rfl
          | some s => simp [World.cell?, hb] at hc0
        subst hs
        have cc : ∀ q v, (xs.flatMap enc)[q]? = some v → ccs[off + q]? = some v ∧ flat 0 v = true := fun q v hq => by
          obtain ⟨a, b⟩ := cell q v hq
          rw [add_plain'] at a
          simp [World.cell?, hb] at a
          exact ⟨a, b⟩
        have hle : off + (xs.flatMap enc).length ≤ ccs.size := by
          obtain ⟨a, _⟩ := cc (xs.length * d.sz - 1) ((xs.flatMap enc)[xs.length * d.sz - 1]'(by omega)) (by rw [List.getElem?_eq_getElem])
          have := (Array.getElem?_eq_some_iff.1 a).1
          omega
        refine ⟨_, add_ext hw.lt, hr.add rfl, hw.view hr hb hle fun j v hj => ⟨v, (cc j v hj).1, flatVR _ 0 v (cc j v hj).2⟩, .arg _ _ _ _ _ hc fun _ => ⟨_, add_same _ _ _, by simp⟩⟩
      | _ => simp [World.cell?, hb] at hc0
theorem row_own (hf : FK d enc) {ι' : Inj} {H' : Hp} {w' : World} {N : Nat} (hr : AllRo ι) (hn : New ι ι' N w) (hw : WR GL ι' H' w') {b k u ty : Nat} {cs : List Value} {v' : Value} {xs : List α}
    (hv : VR ι' (.slice (some ⟨b, 0, none⟩) xs.length k) v') (hg : H'.get b = some (.cells cs ⟨u, ty, true⟩ false)) (hcs : cs.take (xs.length * d.sz) = xs.flatMap enc) (hu : u = 0 ∧ cs.length = k * d.sz ∧ k ≤ 9223372036854775807 ∨ u = d.sz) :
    Kd.R d ty w' w.heap.size (fun _ => True) v' xs := by
  cases hv with
  | slice _ _ _ _ _ i a k' hi hns hnk hk ha =>
    obtain ⟨o, hg', hob⟩ := hw.obj b i hi
    rw [hg] at hg'; cases hg'
    obtain ⟨⟨q1, q1'⟩, q2, ccs, e, fr, h3, h4, h5, h6, h7⟩ := hob
    obtain ⟨_, f2, f3, f4, f5⟩ := h5 rfl
    have hd := q1' rfl
    have hfr := f2 rfl
    have ha' := ha (.inr rfl)
    rw [hd] at ha' h6 h7
    simp only [Nat.zero_add] at ha' h6
    subst ha'
    have hc0 : w.heap.size ≤ i.c := by
      cases h0 : ι b with
      | some i0 =>
        have := hn.ext _ _ h0
        rw [hi] at this
        cases this
        rw [hr _ _ h0] at q2
        cases q2
      | none =>
        obtain ⟨_, _, h⟩ := hn.new b i hi h0
        rcases h with h | ⟨b0, i0, e0, r0, _⟩
        · exact h
        · rw [hr _ _ e0] at r0; cases r0
    have hsz : ccs.size = k' * d.sz ∧ k' ≤ 9223372036854775807 ∧ k ≤ k' := by
      rcases hu with ⟨rfl, hl, hkm⟩ | rfl
      · rcases hk with ⟨_, rfl⟩ | ⟨hk, _⟩
        · have := f4 rfl
          rw [hd] at this
          exact ⟨by omega, hkm, Nat.le_refl _⟩
        · exact absurd q1 hk
      · have hp := hf.pos
        rcases hk with ⟨hk | hk, _⟩ | ⟨_, _, hk1, hk2⟩
        · rw [q1] at hk; simp only at hk; omega
        · cases hk
        · have := hk2 q2
          rw [hd, q1] at this
          simp only [Nat.zero_add] at this
          have hb := f5 (by simp only; omega) rfl
          simp only at hb
          have e1 : ccs.size = k' * d.sz := by omega
          refine ⟨e1, ?_, hk1⟩
          rw [e1] at hb
          exact Nat.le_of_mul_le_mul_right hb hp
    have hlen : xs.length * d.sz ≤ cs.length := by
      have := congrArg List.length hcs
      rw [List.length_take, hf.length] at this
      omega
    refine ⟨fun _ _ => trivial, xs.flatMap enc, ⟨hf.length xs, .inr ⟨i.c, k', ccs, rfl, hc0, by rw [h3, hfr, f3], by omega, hsz.2.1, hsz.1, ?_⟩⟩, hf.reps _ _ _ _⟩
    apply List.ext_getElem?
    intro j
    rw [List.getElem?_take]
    split
    · rename_i hj
      have e1 : (xs.flatMap enc)[j]? = cs[j]? := by rw [← hcs, List.getElem?_take, if_pos hj]
      have hlt : j < cs.length := by omega
      obtain ⟨v1, a1, a2⟩ := h7 j cs[j] (by rw [List.getElem?_eq_getElem])
      rw [Nat.zero_add] at a1
      rw [e1, Array.getElem?_toList, a1, List.getElem?_eq_getElem hlt]
      have hfl : flat 0 cs[j] = true := by
        have : (xs.flatMap enc)[j]? = some cs[j] := by rw [e1, List.getElem?_eq_getElem]
        have := List.mem_of_getElem? this
        obtain ⟨x, _, hx⟩ := List.mem_flatMap.1 this
        exact hf.flat _ _ hx
      congr 1
      exact (flat_eq a2 hfl).symm ▸ rfl
    · rename_i hj
      rw [List.getElem?_eq_none (by rw [hf.length]; omega)]
end
end Go.Proofs.YtehbekgmemebjaaDoorEv
