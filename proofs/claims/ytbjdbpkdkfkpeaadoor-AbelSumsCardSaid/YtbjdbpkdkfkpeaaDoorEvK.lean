import Derived.Test.YtbjdbpkdkfkpeaaDoorEvJ
namespace Go.Proofs.YtbjdbpkdkfkpeaaDoorEv
open Go
set_option linter.unusedVariables false
set_option linter.unusedSimpArgs false
variable {P : Program} {GL : List Nat} {ι : Inj} {H : Hp} {w : World}
theorem sliceCells_slice {size : Nat} {b o : Nat} {sp : Option Nat} {n k : Nat} {l : List Value} {cs : List Value} {u : UT} {ro : Bool} (h : sliceCells H size (.slice (some ⟨b, o, sp⟩) n k) = some l) (hg : H.get b = some (.cells cs u ro)) :
    l = (cs.drop o).take (n * size) ∧ (n = 0 ∨ o + n * size ≤ cs.length) := by
  unfold sliceCells at h
  simp only [hg] at h
  split at h
  · rename_i h0
    cases h
    subst h0
    exact ⟨by simp, .inl rfl⟩
  · split at h
    · cases h; exact ⟨rfl, .inr (by assumption)⟩
    · cases h
theorem sound_append {st xt ty e : TypeId} {i0 : TypeInfo} {z : Array Value} {xd : TypeDesc} {s x s' x' v : Value} {H' : Hp} (hst : P.underlying st = some (.slice e)) (hxt : P.underlying xt = some xd) (hxd : ∀ k, xd ≠ .int k) (hi0 : P.info? e = some i0) (hz : zeroOf P e = some z) (hs : VR ι s s') (hx : VR ι x x') (hw : WR GL ι H w)
    (h : appendO H e i0.size i0.bytes s x = some (v, H')) : Step GL ι H w v H' ((do pure (.value (← Builtin.append_ #[st, xt] ty #[s', x'])) : Sem Next).run P w) := by
  have hsq : sizeQ P e = some i0.size := by simp [sizeQ, hi0]
  obtain ⟨zv, hzr, hzc, hzf, _⟩ := zeroOf_run hz
  obtain ⟨i1, hi1, hzs⟩ := zeroOf_size hz
  rw [hi0] at hi1; cases hi1
  unfold appendO at h
  simp only [Option.bind_eq_bind] at h
  split at h
  case h_2 => cases h
  rename_i base n k
  simp only [Option.bind_eq_some_iff] at h
  obtain ⟨m, hm, new, hnew, h⟩ := h
  have hm' := lenO_run (P := P) (w := w) hx hm
  obtain ⟨l', hlv, hll, hlr⟩ := sliceCells_run (P := P) hx hw hnew m hm
  split at h
  · rename_i hnk
    -- in place
    split at h
    · simp only [Option.some.injEq, Prod.mk.injEq] at h
      obtain ⟨rfl, rfl⟩ := h
      cases hs
      have hm0 : m = 0 := by omega
      subst hm0
      refine Step.pure hw (v' := .slice none 0 0) ?_ .snil
      have := append_in_run (P := P) (w := w) (ty := ty) (a := none) hst hxt hxd hsq hm' (hlr w rfl) (n := 0) (k' := 0) (by omega) w rfl
      simp only [Sem.run_bind, this, Result.andThen_ok, Sem.run_pure]
    · rename_i b o sp
      split at h
      · rename_i cs u ro hg
        cases hs with
        | arg _ _ _ A k' hnk' ha => simp at h
        | slice _ _ _ _ _ i a k' hi hns hnk' hk ha =>
          rw [if_neg hns] at h
          have hkk : n + m ≤ k' := by rcases hk with hk | hk <;> omega
          split at h
          · rename_i hm0
            subst hm0
            simp only [Option.some.injEq, Prod.mk.injEq] at h
            obtain ⟨rfl, rfl⟩ := h
            have hl0 : l' = [] := by
              have := hlv.1
              rw [hll] at this
              simp at this
              exact List.eq_nil_of_length_eq_zero this.symm
            subst hl0
            refine Step.pure hw (v' := .slice (some a) n k') ?_ (.slice _ _ _ _ _ i a k' hi hns hnk' hk ha)
            have := append_in_run (P := P) (w := w) (ty := ty) (a := some a) hst hxt hxd hsq hm' (hlr w rfl) hkk w rfl
            simp only [Sem.run_bind, this, Result.andThen_ok, Sem.run_pure, Nat.add_zero]
          · rename_i hm0
            split at h
            · rename_i hcond
              obtain ⟨rfl, hle, hcells⟩ := hcond
              simp only [Option.some.injEq, Prod.mk.injEq] at h
              obtain ⟨rfl, rfl⟩ := h
              have hll' : new.length = m * i0.size := hll
              obtain ⟨w', hst', hw', hfr⟩ := store_both (P := P) hw hi hg (o := o + n * i0.size) hlv (by omega) (fun v hv => by
                rw [List.all_eq_true] at hcells
                exact hcells v hv)
              have hadd : a.add (n * i0.size) = ⟨i.c, i.d + (o + n * i0.size), none⟩ := by
                rw [ha (.inl (by omega)), add_plain', Nat.add_assoc]
              refine ⟨.slice (some a) (n + m) k', w', ι, .inl ?_, New.refl _ _ _, .slice _ _ _ _ _ i a k' hi hns hnk hk ha, hw', hfr, by rw [Hp.size_put]; exact Nat.le_refl _⟩
              have := append_in_run (P := P) (w := w) (ty := ty) (a := some a) hst hxt hxd hsq hm' (hlr w rfl) hkk w' (by show (storeCells (a.add (n * i0.size)) l').run P w = .ok () w'; rw [hadd]; exact hst')
              simp only [Sem.run_bind, this, Result.andThen_ok, Sem.run_pure]
            · cases h
      · cases h
  · rename_i hnk
    split at h
    · cases h
    · rename_i hlim
      simp only [not_or, Nat.not_lt, Bool.not_eq_false] at hlim
      obtain ⟨hb, hb8, hs0, hcells⟩ := hlim
      simp only [Option.bind_eq_some_iff] at h
      obtain ⟨old, hold, H1, hH1, h⟩ := h
      simp only [Option.some.injEq, Prod.mk.injEq] at h
      obtain ⟨rfl, rfl⟩ := h
      have hnl : lenO (.slice base n k) = some n := rfl
      obtain ⟨ol, holv, holl, holr⟩ := sliceCells_run (P := P) hs hw hold n hnl
      -- the program copies
      have copy : ∀ (a : Option Addr) (k' : Nat), s' = .slice a n k' → ¬ n + m ≤ k' → WR GL ι H1 w → H1.size = H.size →
          Step GL ι H w (.slice (some ⟨H.size, 0, none⟩) (n + m) (n + m)) (H1.new (.cells (old ++ new) ⟨i0.size, e, zO H base⟩ false)) ((do pure (.value (← Builtin.append_ #[st, xt] ty #[s', x'])) : Sem Next).run P w) := by
        intro a k' hs' hnk' hw1 hsz
        subst hs'
        obtain ⟨cap, rest, hcap, hcap2, hrest, hrun⟩ := append_grow_run (P := P) (w := w) (ty := ty) hst hxt hxd hi0 rfl hzr (by rw [hzc, hzs]) hm' hlr holr hnk' hb hb8
        have hon : (ol ++ l').length = (n + m) * i0.size := by
          rw [List.length_append, ← holv.1, ← hlv.1, holl, hll, Nat.add_mul]
        have hcn : ((ol ++ l') ++ rest).toArray.size = cap * i0.size := by
          simp only [List.size_toArray, List.length_append] at hon ⊢
          rw [hon, hrest, ← Nat.add_mul]
          congr 1
          omega
        obtain ⟨a1, a2, a3⟩ := step_cells hw1 (old ++ new) ((ol ++ l') ++ rest).toArray e ⟨i0.size, e, zO H base⟩ { w with drawn := w.drawn + 1 } rfl rfl rfl rfl (by
            have := (VL_append holv hlv).1
            simp only [List.size_toArray, List.length_append] at this ⊢
            omega) (fun j v hj => by
            obtain ⟨v', e1, e2⟩ := VL_get (VL_append holv hlv) hj
            refine ⟨v', ?_, e2⟩
            have hlt := (List.getElem?_eq_some_iff.1 e1).1
            simp only [List.getElem?_toArray]
            rw [List.getElem?_append_left hlt]
            exact e1) (0, 0) ⟨fun x _ => by simp, fun _ => rfl, rfl, fun h => absurd h hs0, fun _ _ => by
            rw [hcn]; exact Nat.mul_le_mul_right _ hcap2⟩ _ rfl
        rw [hsz] at a1 a2
        refine ⟨.slice (some ⟨w.heap.size, 0, none⟩) (n + m) cap, _, _, .inl ?_, a2, .slice _ _ _ _ _ _ _ _ (add_same _ _ _) (by simp) (Nat.le_refl _) ?_ (fun _ => by simp), a1, a3, by rw [Hp.size_new, hsz]; omega⟩
        · simp only [Sem.run_bind, hrun, Result.andThen_ok, Sem.run_pure]
        · right
          exact ⟨hs0, by simp, hcap, fun _ => by simp only [hcn]; omega⟩
      cases hs with
      | snil =>
        simp only [killO, Option.some.injEq] at hH1
        subst hH1
        exact copy none 0 rfl (by omega) hw rfl
      | arg b o _ A k' hnk' ha =>
        simp only [killO] at hH1
        split at hH1
        · simp at hH1
        · cases hH1
      | slice b o sp _ _ i a k' hi hns hnk' hk ha =>
        simp only [killO] at hH1
        split at hH1
        · rename_i cs u ro hg
          obtain ⟨iu, iro⟩ := obj_u hw hi hg
          rw [if_neg hns] at hH1
          split at hH1
          · rename_i hsp
            simp only [Option.some.injEq] at hH1
            subst hH1
            have hkk : k' = k := by
              rcases hk with hk | ⟨_, hk, _⟩
              · exact hk.2
              · exact absurd hsp hk
            exact copy (some a) k' rfl (by omega) hw rfl
          · rename_i hsp
            split at hH1
            · rename_i hu0
              simp only [Option.some.injEq] at hH1
              subst hH1
              have hkk : k' = k := by
                rcases hk with hk | ⟨hk, _⟩
                · exact hk.2
                · rw [iu] at hk; exact absurd hu0 hk
              exact copy (some a) k' rfl (by omega) hw rfl
            · rename_i hu0
              split at hH1
              · cases hH1
              · rename_i hro
                have hro' : ro = false := by simpa using hro
                subst hro'
                split at hH1
                · rename_i hus
                  simp only [Option.some.injEq] at hH1
                  subst hH1
                  by_cases hin : n + m ≤ k'
                  · -- in the same place, for the program
                    have hk0 : k' ≠ k := by omega
                    obtain ⟨_, hsp', _, hbound⟩ := hk.resolve_left fun h => hk0 h.2
                    have hbd := hbound iro
                    have hue : i.u = i0.size := by rw [iu]; exact hus.1
                    rw [hue] at hbd
                    obtain ⟨ob, hg', hkk⟩ := hw.obj b i hi
                    rw [hg] at hg'; cases hg'
                    obtain ⟨q1, q2, ccs, el, fr, h3, h4, h5, h6, h7⟩ := hkk
                    have hk1 : (n + m) * i0.size ≤ k' * i0.size := Nat.mul_le_mul_right _ hin
                    have e1 : (n + m) * i0.size = n * i0.size + m * i0.size := Nat.add_mul _ _ _
                    have hl' : l'.length = m * i0.size := by rw [← hlv.1, hll]
                    have hrun := run_storeCells_cells (P := P) i.c (i.d + (o + n * i0.size)) l' 0 w (fun j hj => by
                        simp only [World.cell?, h3]
                        simp
                        omega)
                      (fun j hj => by
                        have := (h5 rfl).1 (i.d + (o + n * i0.size) + 0 + j) (by omega)
                        simp only [World.frozen?, h3, Bool.and_eq_false_iff, decide_eq_false_iff_not]
                        by_cases hx : fr.1 ≤ i.d + (o + n * i0.size) + 0 + j
                        · exact .inr fun hy => this ⟨hx, hy⟩
                        · exact .inl hx)
                      (fun v' hv' => by
                        obtain ⟨j, hj, rfl⟩ := List.getElem_of_mem hv'
                        have hj' : j < new.length := by rw [hlv.1]; exact hj
                        have := hlv.2 j new[j] l'[j] (by rw [List.getElem?_eq_getElem]) (by rw [List.getElem?_eq_getElem])
                        rw [← this.cell]
                        rw [List.all_eq_true] at hcells
                        exact hcells _ (List.getElem_mem hj'))
                    obtain ⟨⟨ccs', a1, a2, a3⟩, b1, b2, b3, b4, b5⟩ := heap_setCells i.c l' (i.d + (o + n * i0.size) + 0) w ccs el fr h3
                    obtain ⟨eo, hoc⟩ := sliceCells_slice hold hg
                    let i' : BI := { c := i.c, d := i.d + o, u := i0.size, cn := i.cn, ro := false }
                    have hx := add_ext (i := i') hw.lt
                    obtain ⟨c1, c2, c3⟩ := hw.moved hi (by rw [hg]; rfl) q2 (.cells (old ++ new) ⟨i0.size, e, zO H (some ⟨b, o, sp⟩)⟩ false) i' rfl rfl (w.setCells i.c (i.d + (o + n * i0.size) + 0) l') b1 b2 ⟨⟨rfl, fun hz => by
                        simp only [zO, hg, Bool.and_eq_true, beq_iff_eq] at hz
                        have := q1.2 hz.1
                        show i.d + o = 0
                        omega⟩, rfl, ccs', el, fr, a1, by rw [a2]; exact h4, fun _ => ⟨by rw [a2]; exact (h5 rfl).1, fun hz => (by
                        simp only [zO, hg, Bool.and_eq_true, beq_iff_eq] at hz
                        exact (h5 rfl).2.1 hz.1), by rw [(h5 rfl).2.2.1]; exact hus.2, fun h0 => absurd h0 hs0, fun _ hz => (by
                        simp only [zO, hg, Bool.and_eq_true, beq_iff_eq] at hz
                        rw [a2, ← hus.1]
                        exact (h5 rfl).2.2.2.2 (by rw [hus.1]; exact hs0) hz.1)⟩, by
                        rw [a2]
                        show i.d + o + (old ++ new).length ≤ ccs.size
                        rw [List.length_append, holl, hll]
                        omega, fun j v hj => by
                        have e3 := a3 (i.d + o + j)
                        rw [List.getElem?_append] at hj
                        split at hj
                        · rename_i hjo
                          rw [holl] at hjo
                          rw [if_neg (by omega)] at e3
                          have hn0 : n ≠ 0 := by
                            intro h0; subst h0; simp at hjo
                          have hoc' := hoc.resolve_left hn0
                          have hcs : cs[o + j]? = some v := by
                            rw [eo, List.getElem?_take, if_pos hjo, List.getElem?_drop] at hj
                            exact hj
                          obtain ⟨v', e4, e5⟩ := h7 (o + j) v hcs
                          refine ⟨v', ?_, e5.ext hx⟩
                          show ccs'[i.d + o + j]? = some v'
                          rw [e3, show i.d + o + j = i.d + (o + j) by omega]
                          exact e4
                        · rename_i hjo
                          rw [holl] at hjo hj
                          have hjn : j - n * i0.size < new.length := (List.getElem?_eq_some_iff.1 hj).1
                          rw [hll] at hjn
                          rw [if_pos (by omega)] at e3
                          have hlt : j - n * i0.size < l'.length := by omega
                          refine ⟨l'[j - n * i0.size], ?_, (hlv.2 _ v _ hj (List.getElem?_eq_getElem hlt)).ext hx⟩
                          show ccs'[i.d + o + j]? = some _
                          rw [e3, show i.d + o + j - (i.d + (o + n * i0.size) + 0) = j - n * i0.size by omega]
                          exact List.getElem?_eq_getElem hlt⟩ b3 b4 b5
                    have haa := ha (.inl (by omega))
                    have hadd : a.add (n * i0.size) = ⟨i.c, i.d + (o + n * i0.size), none⟩ := by
                      rw [haa, add_plain', Nat.add_assoc]
                    refine ⟨.slice (some a) (n + m) k', _, _, .inl ?_, c2, .slice _ _ _ _ _ i' _ _ (add_same _ _ _) (by simp) (Nat.le_refl _) (.inr ⟨hs0, by simp, hin, fun _ => by
                        show i.d + o + 0 + k' * i0.size = i.cn
                        omega⟩) (fun _ => by rw [haa]; rfl), c1, c3, by rw [Hp.size_new, Hp.size_put]; omega⟩
                    have := append_in_run (P := P) (w := w) (ty := ty) (a := some a) hst hxt hxd hsq hm' (hlr w rfl) hin _ (by simp only; rw [hadd]; exact hrun)
                    simp only [Sem.run_bind, this, Result.andThen_ok, Sem.run_pure]
                  · exact copy (some a) k' rfl hin (hw.kill b) rfl
                · cases hH1
        · cases hH1
end Go.Proofs.YtbjdbpkdkfkpeaaDoorEv
