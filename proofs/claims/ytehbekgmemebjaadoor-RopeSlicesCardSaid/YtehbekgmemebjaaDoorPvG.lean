import Derived.Test.YtehbekgmemebjaaDoorPvF
namespace Go.Proofs.YtehbekgmemebjaaDoorEv
open Go
set_option linter.unusedVariables false
set_option linter.unusedSimpArgs false
theorem Rep.eqv {H : Hp} {Z : Nat → Prop} : ∀ {t : Ty} {x : t.den} {cs : List Value} (f : Nat), Rep H Z t x cs → ∀ v ∈ cs, eqV f v v = true := by
  intro t
  induction t with
  | int k => intro x cs f h v hv; cases h; simp at hv; subst hv; cases f <;> simp [eqV]
  | bool => intro x cs f h v hv; cases h; simp at hv; subst hv; cases f <;> simp [eqV]
  | str => intro x cs f h v hv; cases h; simp at hv; subst hv; cases f <;> simp [eqV]
  | sl t _ =>
    intro x cs f h v hv
    obtain ⟨base, k, rfl, _⟩ := h
    simp at hv; subst hv; cases f <;> simp [eqV]
  | unit => intro x cs f h v hv; cases h; cases hv
  | pair a b iha ihb =>
    intro x cs f h v hv
    obtain ⟨c, d, rfl, h1, h2⟩ := h
    rcases List.mem_append.1 hv with hv | hv
    · exact iha f h1 v hv
    · exact ihb f h2 v hv
  | arr n t ih =>
    intro l cs f h v hv
    obtain ⟨ps, _, rfl, h2⟩ := h
    have : ∀ (l : List t.den) (ps : List (List Value)), All2 (Rep H Z t) l ps → ∀ v ∈ ps.flatten, eqV f v v = true := by
      intro l
      induction l with
      | nil => intro ps h v hv; cases ps with
        | nil => cases hv
        | cons _ _ => exact h.elim
      | cons a l ihl => intro ps h v hv; cases ps with
        | nil => exact h.elim
        | cons p ps =>
          rw [List.flatten_cons, List.mem_append] at hv
          rcases hv with hv | hv
          · exact ih f h.1 v hv
          · exact ihl _ h.2 v hv
    exact this l ps h2 v hv
theorem AtOK.eqv {c : Cx} {ts : List Ty} {e : Pe ts} {n : Nat} {a : At} {cs : List Value} (f : Nat) (h : AtOK c e n a cs) (ha : a.isV = true) : ∀ v ∈ cs, eqV f v v = true := by
  intro v hv
  cases a with
  | pu i => obtain ⟨t, x, _, h2⟩ := h; exact h2.eqv f v hv
  | cst l => cases h; simp at hv; subst hv; cases l <;> cases f <;> simp [Lt.val, eqV]
  | nil => cases h; simp at hv; subst hv; cases f <;> simp [eqV]
  | hd j =>
    obtain ⟨_, ⟨base, len, k, h2⟩, rfl⟩ := h
    simp at hv; subst hv
    rw [h2]; cases f <;> simp [eqV]
  | bp j o => obtain ⟨_, b, _, rfl⟩ := h; simp at hv; subst hv; cases f <;> simp [eqV]
  | ep j i o w => obtain ⟨_, x, b, o, sp, len, k, _, _, _, _, rfl⟩ := h; simp at hv; subst hv; cases f <;> simp [eqV]
  | sp i o => obtain ⟨t, x, b, o, bc, u, ro, cs0, rest, _, rfl, _⟩ := h; simp at hv; subst hv; cases f <;> simp [eqV]
  | fn g => cases ha
  | ifc g => cases ha
  | ap j off i m w o2 => obtain ⟨_, x, b, _, _, _, _, rfl⟩ := h; simp at hv; subst hv; cases f <;> simp [eqV]
theorem AtsOK.eqv {c : Cx} {ts : List Ty} {e : Pe ts} {n : Nat} (f : Nat) : ∀ {l : List At} {cs : List Value}, AtsOK c e n l cs → l.all At.isV = true → ∀ v ∈ cs, eqV f v v = true
  | [], cs, h, _ => fun v hv => by rw [h.nil'] at hv; cases hv
  | a :: l, cs, h, ha => fun v hv => by
    obtain ⟨p, r, rfl, h1, h2⟩ := h.cons
    rw [List.all_cons, Bool.and_eq_true] at ha
    rcases List.mem_append.1 hv with hv | hv
    · exact h1.eqv f ha.1 v hv
    · exact AtsOK.eqv f h2 ha.2 v hv
theorem eqV_agg {f : Nat} {cs : List Value} (h : ∀ v ∈ cs, eqV f v v = true) : eqV (f + 1) (.agg cs.toArray) (.agg cs.toArray) = true := by
  simp only [eqV, beq_self_eq_true, Bool.true_and, List.all_eq_true]
  rintro ⟨x, y⟩ hxy
  obtain ⟨i, hi, e⟩ := List.getElem_of_mem hxy
  simp only [List.getElem_zip, Prod.mk.injEq] at e
  obtain ⟨rfl, rfl⟩ := e
  exact h _ (List.getElem_mem _)
section
variable {H0 : Hp} {Z0 Z : Nat → Prop} {A : AState} {e : Pe A.ts} {s : St} {hv : Nat → Value} {d : Option Nat} {nx : Nx A}
theorem opA_a {x : Operand} {a : At} (hs : SemD H0 Z0 A e s Z hv) (h : opA A x = some (.a a)) : AtOK ⟨s.H, Z, hv⟩ e A.ob.length a [s.env x] := opA_ok hs h
theorem lv_rep (hs : SemD H0 Z0 A e s Z hv) {j i : Nat} {t : Ty} {ty l : Nat} {f : Pe A.ts → List t.den} (hj : A.ob[j]? = some (.sl t ty l)) (hf : lvT A.ts l (.sl t) = some f) : OwnSl s.H Z H0.size t ty (hv j) (f e) := by
  obtain ⟨l', h1, h2⟩ := hs.ob j _ hj
  have := lvT_lk e hf
  rw [h1] at this
  cases this
  exact h2
theorem trIxS_ok (hs : SemD H0 Z0 A e s Z hv) {size : Nat} {x i : Operand} (h : trIxS A d size x i = some nx) {e' : Pe nx.B.ts} (he : nx.F e = some e') : Did H0 Z0 A s d (.ixS size x i) nx.B e' := by
  unfold trIxS at h
  split at h
  · rename_i j g hx hg
    split at h
    · rename_i t ty l hj
      split at h
      · rename_i f hf
        split at h
        · rename_i hw
          cases h
          simp only [nxP, nxB, nxQ, nxT] at he
          split at he
          · rename_i hr
            cases he
            obtain ⟨k, hk⟩ := exI_ok hs hg
            obtain ⟨hn, _, h1⟩ := opA_a hs hx
            simp only [List.cons.injEq, and_true] at h1
            rcases lv_rep hs (i := 0) hj hf with ⟨_, h3⟩ | ⟨b, o, sp, k', bc, u, ps, rest, h3, _⟩
            · rw [h3] at hr; simp at hr; omega
            · refine ⟨.pointer (some ⟨b, o + (g e).toNat * size, none⟩), s.H, ?_, (fun _ h => by simp [hfree] at h), Z, hv, hs.pure (Ex.push e _) fun _ => ?_⟩
              · simp only [evOp, h1, h3, hk]
                rw [if_pos hr]
              · exact ⟨hn, g e, b, o, sp, _, k', lk_top e _, h3, hr.1, hr.2, by simp⟩
          · cases he
        · cases h
      · cases h
    · cases h
  · rename_i a g hna hx hg
    split at h
    · rename_i t ht
      split at h
      · rename_i f hf
        split at h
        · rename_i hw
          cases h
          simp only [nxP, nxB, nxQ, nxT] at he
          obtain ⟨y, hy, he⟩ := Option.bind_eq_some_iff.1 he
          cases he
          obtain ⟨k, hk⟩ := exI_ok hs hg
          obtain ⟨q0, q1, q2⟩ := atL_some hy
          obtain ⟨base, cap, h1, h2⟩ := exA_ok hf (opA_a hs hx)
          simp only [List.cons.injEq, and_true] at h1
          rcases h2 with ⟨h2, _⟩ | ⟨b, o, sp, bc, u, ro, ps, rest, rfl, zb, hgb, hd, hl, _⟩
          · rw [h2] at q1; simp at q1
          · obtain ⟨cs0, rest', h3, h4⟩ := elem_at hd hl q1
            subst hw
            refine ⟨.pointer (some ⟨b, o + (g e).toNat * t.w, none⟩), s.H, ?_, (fun _ h => by simp [hfree] at h), Z, hv, hs.pure (Ex.push e _) fun _ => ?_⟩
            · simp only [evOp, h1, hk]
              rw [if_pos ⟨q0, q2⟩]
            · exact ⟨t, y, b, o + (g e).toNat * t.w, bc, u, ro, cs0, rest', lk_top e y, rfl, zb, hgb, h3, h4⟩
        · cases h
      · cases h
    · cases h
  · cases h
theorem drop_at {bc cs0 rest : List Value} {o off : Nat} {v : Value} (h : bc.drop o = cs0 ++ rest) (hv : cs0[off]? = some v) : bc[o + off]? = some v := by
  rw [← List.getElem?_drop, h, List.getElem?_append_left (List.getElem?_eq_some_iff.1 hv).1]
  exact hv
theorem drop_sub {bc cs0 rest : List Value} {o off n : Nat} (h : bc.drop o = cs0 ++ rest) (hn : off + n ≤ cs0.length) (h0 : 0 < n) : o + off + n ≤ bc.length ∧ (bc.drop (o + off)).take n = (cs0.drop off).take n := by
  have h1 := congrArg List.length h
  rw [List.length_drop, List.length_append] at h1
  refine ⟨by omega, ?_⟩
  rw [← List.drop_drop, h, List.drop_append_of_le_length (by omega), List.take_append_of_le_length (by rw [List.length_drop]; omega)]
theorem drop_split {α : Type} (l : List α) (K M : Nat) : l.drop K = (l.drop K).take M ++ l.drop (K + M) := by
  rw [← List.drop_drop, List.take_append_drop]
theorem arr_at (hs : SemD H0 Z0 A e s Z hv) {x : Operand} {j off i n o2 q m : Nat} {l : List At} {t : Ty} {f : Pe A.ts → List t.den} {g : Pe A.ts → Int} {y : t.den} (hx : opA A x = some (.a (.ap j off i n t.w o2))) (hj : A.ob[j]? = some (.bx l)) (hq : subA A l off (n * t.w) = some [.pu q]) (hf : lv A.ts q = some ⟨.arr m t, f⟩) (hg : lvT A.ts i (.int .i64) = some g) (hy : atL (f e) (g e) = some y) :
    ∃ b bc uu, s.env x = .pointer (some ⟨b, off + (g e).toNat * t.w + o2, none⟩) ∧ s.H.get b = some (.cells bc uu false) ∧ hv j = .pointer (some ⟨b, 0, none⟩) ∧ (∃ rest, bc.drop (off + (g e).toNat * t.w) = ((bc.drop (off + (g e).toNat * t.w)).take t.w) ++ rest) ∧ Rep s.H Z t y ((bc.drop (off + (g e).toNat * t.w)).take t.w) := by
  obtain ⟨_, z, b', h1, h2, h3, h4, h5⟩ := opA_a hs hx
  have h1' := lvT_lk e hg
  rw [h1] at h1'
  cases h1'
  obtain ⟨b, bc, u, k3, k4, k5, k6, k7, k8⟩ := hs.ob j _ hj
  have h2' : hv j = _ := h2
  rw [k3] at h2'
  cases h2'
  obtain ⟨q0, q1, q2⟩ := atL_some hy
  obtain ⟨s1, s2⟩ := subA_ok hq k8
  obtain ⟨t', x', s3, s4⟩ := s2.one
  rw [lv_lk e hf] at s3
  cases s3
  obtain ⟨ps, s5, s6, s7⟩ := s4
  have hflen := reps_len s7
  have s6' : (bc.drop off).take (n * t.w) = ps.flatten := s6
  obtain ⟨cs0, rest', w1, w2⟩ := elem_at (bc := ps.flatten) (rest := []) (o := 0) (by simp) s7 q1
  rw [Nat.zero_add] at w1
  have wl := w2.len
  have hdrop : bc.drop (off + (g e).toNat * t.w) = cs0 ++ (rest' ++ (bc.drop off).drop (n * t.w)) := by
    rw [← List.drop_drop]
    have e1 : bc.drop off = ps.flatten ++ (bc.drop off).drop (n * t.w) := by rw [← s6', List.take_append_drop]
    have hle : (g e).toNat * t.w ≤ ps.flatten.length := by
      rw [hflen]; exact Nat.mul_le_mul_right _ (by omega)
    rw [e1, List.drop_append_of_le_length hle, w1, List.append_assoc]
    rw [← e1]
  have htake : (bc.drop (off + (g e).toNat * t.w)).take t.w = cs0 := by rw [hdrop, ← wl, List.take_left]
  simp only [List.cons.injEq, and_true] at h5
  refine ⟨b', bc, u, h5, k7, k3, ⟨rest' ++ (bc.drop off).drop (n * t.w), ?_⟩, ?_⟩
  · rw [htake]; exact hdrop
  · rw [htake]; exact w2
theorem trLoad_ok (hs : SemD H0 Z0 A e s Z hv) {x : Operand} (h : trLoad A d x = some nx) {e' : Pe nx.B.ts} (he : nx.F e = some e') : Did H0 Z0 A s d (.load x) nx.B e' := by
  unfold trLoad at h
  split at h
  · rename_i j off hx
    split at h
    · rename_i l hj
      split at h
      · rename_i a ha
        split at h
        · rename_i hisv
          cases h; cases he
          obtain ⟨_, b', h1, h2⟩ := opA_a hs hx
          obtain ⟨b, bc, u, h3, h4, h5, h6, h7, h8⟩ := hs.ob j _ hj
          change hv j = _ at h1
          rw [h3] at h1
          cases h1
          obtain ⟨q1, q2⟩ := subA_ok ha h8
          simp only [List.cons.injEq, and_true] at h2
          have hlt : off < bc.length := by omega
          have e1 : (bc.drop off).take 1 = [bc[off]] := by rw [List.drop_eq_getElem_cons hlt]; rfl
          rw [e1] at q2
          have q3 := q2.one
          refine ⟨bc[off], s.H, ?_, fun _ _ => q3.eqv 3 hisv _ (by simp), Z, hv, hs.pure (Ex.refl e) fun _ => q3⟩
          have h7' : s.H.get b' = some (.cells bc u false) := h7
          simp only [evOp, h2, loadO, h7', List.getElem?_eq_getElem hlt, Option.map_some]
        · cases h
      · cases h
    · cases h
  · rename_i i off hx
    split at h
    · rename_i t f hf
      split at h
      · rename_i u p hp
        cases h; cases he
        obtain ⟨t', y, b, o, bc, uu, ro, cs0, rest, h1, h2, h3, h4, h5, h6⟩ := opA_a hs hx
        rw [lv_lk e hf] at h1
        cases h1
        obtain ⟨v, q1, q2, q3⟩ := prj_ok hp h6
        simp only [List.cons.injEq, and_true] at h2
        have h4' : s.H.get b = some (.cells bc uu ro) := h4
        refine ⟨v, s.H, ?_, fun _ _ => eqV_rep q2 q3 3, Z, hv, puT_ok hs q2⟩
        simp only [evOp, h2, loadO, h4', drop_at h5 q1, Option.map_some]
      · cases h
    · cases h
  · rename_i j i off w hx
    split at h
    · rename_i t ty l hj
      split at h
      · rename_i f g u p hf hg hp
        split at h
        · rename_i hw
          cases h
          obtain ⟨z, hz, rfl⟩ := puT_F he
          obtain ⟨y, hy, hz⟩ := Option.bind_eq_some_iff.1 hz
          cases hz
          obtain ⟨_, n, b', o', sp', len, k, h1, h2, h3, h4, h5⟩ := opA_a hs hx
          have h1' := lvT_lk e hg
          rw [h1] at h1'
          cases h1'
          obtain ⟨q0, q1, q2⟩ := atL_some hy
          rcases lv_rep hs (i := 0) hj hf with ⟨_, h6⟩ | ⟨b, o, sp, k', bc, uu, ps, rest, h6, _, _, _, _, h7, h8, h9, _⟩
          · rw [h6] at q1; simp at q1
          · have h2' : hv j = _ := h2
            rw [h6] at h2'
            cases h2'
            obtain ⟨cs0, rest', r1, r2⟩ := elem_at h8 h9 q1
            obtain ⟨v, r3, r4, r5⟩ := prj_ok hp r2
            simp only [List.cons.injEq, and_true] at h5
            subst hw
            refine ⟨v, s.H, ?_, fun _ _ => eqV_rep r4 r5 3, Z, hv, puT_ok hs r4⟩
            simp only [evOp, h5, loadO, h7, drop_at r1 r3, Option.map_some]
        · cases h
      · cases h
    · cases h
  · rename_i j off i n w o2 hx
    split at h
    · rename_i l hj
      split at h
      · rename_i q hq
        split at h
        · rename_i m t f g hf hg
          split at h
          · rename_i u p hp
            split at h
            · rename_i hw
              subst hw
              cases h
              obtain ⟨z, hz, rfl⟩ := puT_F he
              obtain ⟨y, hy, hz⟩ := Option.bind_eq_some_iff.1 hz
              cases hz
              obtain ⟨b, bc, uu, r1, r2, r3, r4, r5⟩ := arr_at hs hx hj hq hf hg hy
              obtain ⟨v, r6, r7, r8⟩ := prj_ok hp r5
              refine ⟨v, s.H, ?_, fun _ _ => eqV_rep r7 r8 3, Z, hv, puT_ok hs r7⟩
              obtain ⟨rest, r4⟩ := r4
              simp only [evOp, r1, loadO, r2, drop_at r4 r6, Option.map_some]
            · cases h
          · cases h
        · cases h
      · cases h
    · cases h
  · cases h
theorem exN_F {t : Ty} {f : Pe A.ts → Option t.den} {e' : Pe (exN A d t f).B.ts} (h : (exN A d t f).F e = some e') : ∃ x, f e = some x ∧ e' = expF t A.ts x e := by
  obtain ⟨x, h1, h2⟩ := Option.bind_eq_some_iff.1 h
  cases h2
  exact ⟨x, h1, rfl⟩
theorem exN_ok (h : SemD H0 Z0 A e s Z hv) {t : Ty} {x : t.den} {cs : List Value} (hr : Rep s.H Z t x cs) : SemD H0 Z0 ⟨expT t A.ts, setS A.sl d (.v (.g (expL t A.ts.length))), A.ob⟩ (expF t A.ts x e) (s.nx s.H d (.agg cs.toArray)) Z hv := by
  obtain ⟨h1, h2⟩ := exp_ok (e := e) (hv := hv) (n := A.ob.length) hr
  exact h.pure h2 fun _ => ⟨cs, rfl, h1⟩
theorem trLoadA_ok (hs : SemD H0 Z0 A e s Z hv) {n : Nat} {x : Operand} (h : trLoadA A d n x = some nx) {e' : Pe nx.B.ts} (he : nx.F e = some e') : Did H0 Z0 A s d (.loadA n x) nx.B e' := by
  unfold trLoadA at h
  split at h
  · rename_i j off hx
    split at h
    · rename_i l hj
      split at h
      · rename_i r hr
        split at h
        · rename_i hisv
          cases h; cases he
          obtain ⟨_, b', h1, h2⟩ := opA_a hs hx
          obtain ⟨b, bc, u, h3, h4, h5, h6, h7, h8⟩ := hs.ob j _ hj
          change hv j = _ at h1
          rw [h3] at h1
          cases h1
          obtain ⟨q1, q2⟩ := subA_ok hr h8
          simp only [List.cons.injEq, and_true] at h2
          have h7' : s.H.get b' = some (.cells bc u false) := h7
          refine ⟨.agg ((bc.drop off).take n).toArray, s.H, ?_, fun _ _ => eqV_agg (f := 2) (q2.eqv 2 hisv), Z, hv, hs.pure (Ex.refl e) fun _ => ⟨_, rfl, q2⟩⟩
          simp only [evOp, h2, loadAO, h7']
          rw [if_pos q1]; rfl
        · cases h
      · cases h
    · cases h
  · rename_i i off hx
    split at h
    · rename_i t f hf
      split at h
      · rename_i u p hp
        split at h
        · rename_i h0
          cases h
          obtain ⟨z, hz, rfl⟩ := exN_F he
          cases hz
          obtain ⟨t', y, b, o, bc, uu, ro, cs0, rest, h1, h2, h3, h4, h5, h6⟩ := opA_a hs hx
          rw [lv_lk e hf] at h1
          cases h1
          obtain ⟨q1, q2⟩ := prjS_ok hp h6
          simp only [List.cons.injEq, and_true] at h2
          have h4' : s.H.get b = some (.cells bc uu ro) := h4
          obtain ⟨w1, w2⟩ := drop_sub h5 q1 h0
          refine ⟨.agg ((cs0.drop off).take n).toArray, s.H, ?_, fun _ _ => eqV_agg (f := 2) (q2.eqv 2), Z, hv, exN_ok hs q2⟩
          simp only [evOp, h2, loadAO, h4']
          rw [if_pos w1, w2]; rfl
        · cases h
      · cases h
    · cases h
  · rename_i j i off w hx
    split at h
    · rename_i t ty l hj
      split at h
      · rename_i f g u p hf hg hp
        split at h
        · rename_i hw
          obtain ⟨hw, h0⟩ := hw
          cases h
          obtain ⟨z, hz, rfl⟩ := exN_F he
          obtain ⟨y, hy, hz⟩ := Option.bind_eq_some_iff.1 hz
          cases hz
          obtain ⟨_, m, b', o', sp', len, k, h1, h2, h3, h4, h5⟩ := opA_a hs hx
          have h1' := lvT_lk e hg
          rw [h1] at h1'
          cases h1'
          obtain ⟨q0, q1, q2⟩ := atL_some hy
          rcases lv_rep hs (i := 0) hj hf with ⟨_, h6⟩ | ⟨b, o, sp, k', bc, uu, ps, rest, h6, _, _, _, _, h7, h8, h9, _⟩
          · rw [h6] at q1; simp at q1
          · have h2' : hv j = _ := h2
            rw [h6] at h2'
            cases h2'
            obtain ⟨cs0, rest', r1, r2⟩ := elem_at h8 h9 q1
            obtain ⟨w1, w2⟩ := prjS_ok hp r2
            simp only [List.cons.injEq, and_true] at h5
            subst hw
            obtain ⟨v1, v2⟩ := drop_sub r1 w1 h0
            refine ⟨.agg ((cs0.drop off).take n).toArray, s.H, ?_, fun _ _ => eqV_agg (f := 2) (w2.eqv 2), Z, hv, exN_ok hs w2⟩
            simp only [evOp, h5, loadAO, h7]
            rw [if_pos v1, v2]; rfl
        · cases h
      · cases h
    · cases h
  · rename_i j off i n1 w o2 hx
    split at h
    · rename_i l hj
      split at h
      · rename_i q hq
        split at h
        · rename_i m t f g hf hg
          split at h
          · rename_i u p hp
            split at h
            · rename_i hw
              obtain ⟨hw, h0⟩ := hw
              subst hw
              cases h
              obtain ⟨z, hz, rfl⟩ := exN_F he
              obtain ⟨y, hy, hz⟩ := Option.bind_eq_some_iff.1 hz
              cases hz
              obtain ⟨b, bc, uu, r1, r2, r3, ⟨rest, r4⟩, r5⟩ := arr_at hs hx hj hq hf hg hy
              obtain ⟨w1, w2⟩ := prjS_ok hp r5
              obtain ⟨v1, v2⟩ := drop_sub r4 w1 h0
              refine ⟨.agg ((((bc.drop (off + (g e).toNat * t.w)).take t.w).drop o2).take n).toArray, s.H, ?_, fun _ _ => eqV_agg (f := 2) (w2.eqv 2), Z, hv, exN_ok hs w2⟩
              simp only [evOp, r1, loadAO, r2]
              rw [if_pos v1, v2]; rfl
            · cases h
          · cases h
        · cases h
      · cases h
    · cases h
  · cases h
theorem AtOK.isCell {c : Cx} {ts : List Ty} {e : Pe ts} {n : Nat} {a : At} {cs : List Value} (h : AtOK c e n a cs) : cs.all _root_.Go.Proofs.YtehbekgmemebjaaDoorEv.isCell = true := by
  cases a with
  | pu i => obtain ⟨t, x, _, h2⟩ := h; exact h2.isCell
  | cst l => cases h; cases l <;> rfl
  | nil => cases h; rfl
  | hd j => obtain ⟨_, ⟨base, len, k, h2⟩, rfl⟩ := h; rw [h2]; rfl
  | bp j o => obtain ⟨_, b, _, rfl⟩ := h; rfl
  | ep j i o w => obtain ⟨_, x, b, o, sp, len, k, _, _, _, _, rfl⟩ := h; rfl
  | sp i o => obtain ⟨t, x, b, o, bc, u, ro, cs0, rest, _, rfl, _⟩ := h; rfl
  | fn g => cases h; rfl
  | ifc g => cases h; rfl
  | ap j off i m w o2 => obtain ⟨_, x, b, _, _, _, _, rfl⟩ := h; rfl
theorem AtsOK.isCell {c : Cx} {ts : List Ty} {e : Pe ts} {n : Nat} : ∀ {l : List At} {cs : List Value}, AtsOK c e n l cs → cs.all _root_.Go.Proofs.YtehbekgmemebjaaDoorEv.isCell = true
  | [], cs, h => by rw [h.nil']; rfl
  | a :: l, cs, h => by
    obtain ⟨p, r, rfl, h1, h2⟩ := h.cons
    rw [List.all_append, h1.isCell, AtsOK.isCell h2]; rfl
theorem cell_cells {v : Value} (h : _root_.Go.Proofs.YtehbekgmemebjaaDoorEv.isCell v = true) : v.cells.toList = [v] := by cases v <;> first | rfl | cases h
theorem opA_cells (hs : SemD H0 Z0 A e s Z hv) {x : Operand} {v : AV1} (hx : opA A x = some v) : AtsOK ⟨s.H, Z, hv⟩ e A.ob.length (atsV v) (s.env x).cells.toList := by
  have h1 := opA_ok hs hx
  cases v with
  | a y =>
    have h2 : AtOK ⟨s.H, Z, hv⟩ e A.ob.length y [s.env x] := h1
    have h3 := h2.isCell
    rw [cell_cells (by simpa using h3)]
    exact .of1 h2
  | g l =>
    obtain ⟨cs, h2, h3⟩ := h1
    rw [h2]; exact h3
theorem exV_cells {x : AV1} {t : Ty} {f : Pe A.ts → t.den} {c : Cx} {n : Nat} {v : Value} (h : exV A x t = some f) (ha : AV1OK c e n x v) : Rep c.H c.Z t (f e) v.cells.toList := (exV_ok h ha).cells
theorem trStore_ok (hs : SemD H0 Z0 A e s Z hv) {n : Nat} {a x : Operand} (h : trStore A n a x = some nx) {e' : Pe nx.B.ts} (he : nx.F e = some e') : Did H0 Z0 A s none (.store n a x) nx.B e' := by
  unfold trStore at h
  split at h
  · rename_i j off v hx hv'
    split at h
    · rename_i l hj
      split at h
      · rename_i r m hr hm
        split at h
        · rename_i hmn
          cases h; cases he
          obtain ⟨_, b', h1, h2⟩ := opA_a hs hx
          obtain ⟨b, bc, u, h3, h4, h5, h6, h7, h8⟩ := hs.ob j _ hj
          change hv j = _ at h1
          rw [h3] at h1
          cases h1
          have hc := opA_cells hs hv'
          have hlen := widA_ok hm hc
          obtain ⟨q1, q2⟩ := repA_ok hr h8 hc
          rw [← setL_eq _ _ _ q1] at q2
          simp only [List.cons.injEq, and_true] at h2
          have h7' : s.H.get b' = some (.cells bc u false) := h7
          have g : Grow ⟨s.H, Z, hv⟩ ⟨s.H.put b' (.cells (setL bc off (s.env x).cells.toList) u false), Z, hv⟩ e e A.ob.length A.ob.length := ⟨fun _ h => h, fun c hc => by
            show (s.H.put b' _).get c = _
            rw [Hp.get_put, if_neg (by rintro rfl; exact h6 hc)], fun _ _ => rfl, Nat.le_refl _, Ex.refl e⟩
          refine ⟨undef, s.H.put b' (.cells (setL bc off (s.env x).cells.toList) u false), ?_, (fun h => by simp [reads, hfree] at h), Z, hv, ?_⟩
          · simp only [evOp, h2, storeO, h7']
            have hal := hc.isCell
            rw [if_pos ⟨by rw [← hmn, ← hlen]; simp, trivial, by rw [← hmn, ← hlen]; exact q1, by simpa using hal⟩]
            rfl
          · exact hs.upd (d := none) (o' := .bx r) (a := .v (.a .nil)) (Ex.refl e) hj rfl (by rw [h3]; rfl) ⟨b', _, u, h3, h4, h5, h6, by simp only [Hp.get_put, if_true], q2.mono g⟩ (fun h => by cases h)
        · cases h
      · cases h
    · cases h
  · rename_i j i off w v hx hv'
    split at h
    · rename_i t ty l hj
      split at h
      · rename_i f g u p hf hg hp
        split at h
        · rename_i y hy
          split at h
          · rename_i hw
            obtain ⟨hw, hun, h0⟩ := hw
            cases h
            simp only [nxP, nxB, nxQ, nxT] at he
            obtain ⟨z, hz, he⟩ := Option.bind_eq_some_iff.1 he
            cases he
            obtain ⟨_, m, b', o', sp', len, k, h1, h2, h3, h4, h5⟩ := opA_a hs hx
            have h1' := lvT_lk e hg
            rw [h1] at h1'
            cases h1'
            obtain ⟨q0, q1, q2⟩ := atL_some hz
            rcases lv_rep hs (i := 0) hj hf with ⟨_, h6⟩ | ⟨b, o, sp, k', bc, uu, ps, rest, h6, r1, r2, r3, r4, r5, r6, r7, r8, r9, r10, r11⟩
            · rw [h6] at q1; simp at q1
            · have h2' : hv j = _ := h2
              rw [h6] at h2'
              cases h2'
              simp only [List.cons.injEq, and_true] at h5
              subst hw
              have hc := exV_cells hy (opA_ok hs hv')
              have hcl := hc.len
              have hcell := hc.isCell
              obtain ⟨ps', w1, w2⟩ := reps_set (vs := (s.env x).cells.toList) (off := off) (g e).toNat (y := p z (y e)) (rest := rest) r7 q1 (fun c hc' => by
                obtain ⟨x1, x2, x3⟩ := stT_ok hp hc' hc
                rw [x1]; exact ⟨x2, x3⟩)
              obtain ⟨cs0, rest', v1, v2⟩ := elem_at r6 r7 q1
              obtain ⟨x1, x2, _⟩ := stT_ok hp v2 hc
              have hle : o' + (g e).toNat * t.w + off + (s.env x).cells.toList.length ≤ bc.length := by
                have := congrArg List.length v1
                rw [List.length_drop, List.length_append] at this
                omega
              have hset := setL_eq _ _ _ hle
              have hdrop : (setL bc (o' + (g e).toNat * t.w + off) (s.env x).cells.toList).drop o' = ps'.flatten ++ rest := by
                rw [hset, List.append_assoc, List.drop_append_of_le_length (by rw [List.length_take]; omega), List.drop_take, ← w2, ← r6, List.drop_drop, List.append_assoc]
                have a1 : o' + (g e).toNat * t.w + off - o' = (g e).toNat * t.w + off := by omega
                have a2 : o' + (g e).toNat * t.w + off + (s.env x).cells.toList.length = o' + ((g e).toNat * t.w + off + (s.env x).cells.toList.length) := by omega
                rw [a1, a2]
              have g' : Grow ⟨s.H, Z, hv⟩ ⟨s.H.put b' (.cells (setL bc (o' + (g e).toNat * t.w + off) (s.env x).cells.toList) uu false), Z, hv⟩ e (ts' := .sl t :: A.ts) ((f e).set (g e).toNat (p z (y e)), e) A.ob.length A.ob.length := ⟨fun _ h => h, fun c hc => by
                show (s.H.put b' _).get c = _
                rw [Hp.get_put, if_neg (by rintro rfl; exact r4 hc)], fun _ _ => rfl, Nat.le_refl _, Ex.push e _⟩
              refine ⟨undef, s.H.put b' (.cells (setL bc (o' + (g e).toNat * t.w + off) (s.env x).cells.toList) uu false), ?_, (fun h => by simp [reads, hfree] at h), Z, hv, ?_⟩
              · simp only [evOp, h5, storeO, r5]
                rw [if_pos ⟨by rw [← hun, ← hcl]; simp, trivial, by rw [← hun, ← hcl]; exact hle, by simpa using hcell⟩]
                rfl
              · refine hs.upd (d := none) (o' := .sl t ty A.ts.length) (a := .v (.a .nil)) g'.e hj rfl (by rw [h6]; rfl) ⟨_, lk_top e _, .inr ⟨b', o', sp', k, _, uu, ps', rest, by rw [List.length_set]; exact h6, r1, r2, r3, r4, by simp only [Hp.get_put, if_true], hdrop, w1.mono fun _ _ => Rep.mono g'.z g'.h _ _ _, by rw [setL_length]; exact r8, by rw [List.length_set]; exact r9, r10, r11⟩⟩ (fun h => by cases h)
          · cases h
        · cases h
      · cases h
    · cases h
  · rename_i j off i n1 w o2 v hx hv'
    split at h
    · rename_i l hj
      split at h
      · rename_i q hq
        split at h
        · rename_i m t f g hf hg
          split at h
          · rename_i u p hp
            split at h
            · rename_i y l' hy hl'
              split at h
              · rename_i hw
                obtain ⟨hw, hun, h0, hm⟩ := hw
                subst hw hm
                cases h
                simp only [nxP, nxB, nxQ, nxT] at he
                obtain ⟨z, hz, he⟩ := Option.bind_eq_some_iff.1 he
                cases he
                obtain ⟨b, bc, uu, r1, r2, r3, ⟨rest, r4⟩, r5⟩ := arr_at hs hx hj hq hf hg hz
                obtain ⟨b2, bc2, u2, k3, k4, k5, k6, k7, k8⟩ := hs.ob j _ hj
                rw [r3] at k3
                cases k3
                have k7' : s.H.get b = some (.cells bc2 u2 false) := k7
                rw [r2] at k7'
                cases k7'
                obtain ⟨q0, q1, q2⟩ := atL_some hz
                obtain ⟨s1, s2⟩ := subA_ok hq k8
                obtain ⟨t', x', s3, s4⟩ := s2.one
                rw [lv_lk e hf] at s3
                cases s3
                obtain ⟨ps, s5, s6, s7⟩ := s4
                have hflen := reps_len s7
                have s6' : (bc.drop off).take (m * t.w) = ps.flatten := s6
                have hc := exV_cells hy (opA_ok hs hv')
                have hcl := hc.len
                have hcell := hc.isCell
                obtain ⟨ps', w1, w2⟩ := reps_set (vs := (s.env x).cells.toList) (off := o2) (g e).toNat (y := p z (y e)) (rest := []) s7 q1 (fun c hc' => by
                  obtain ⟨x1, x2, x3⟩ := stT_ok hp hc' hc
                  rw [x1]; exact ⟨x2, x3⟩)
                obtain ⟨x1, x2, _⟩ := stT_ok hp r5 hc
                have x2' : o2 + n ≤ t.w := by rw [List.length_take] at x2; omega
                have hidx : (g e).toNat * t.w + t.w ≤ m * t.w := by
                  have : ((g e).toNat + 1) * t.w ≤ m * t.w := Nat.mul_le_mul_right _ (by omega)
                  rwa [Nat.add_mul, Nat.one_mul] at this
                have hle : off + (g e).toNat * t.w + o2 + (s.env x).cells.toList.length ≤ bc.length := by omega
                have hset := setL_eq _ _ _ hle
                simp only [List.append_nil] at w2
                have hnew : (bc.take off ++ ps'.flatten ++ bc.drop (off + ps'.flatten.length)) = setL bc (off + (g e).toNat * t.w + o2) (s.env x).cells.toList := by
                  have hl' := reps_len w1
                  rw [List.length_set, s5] at hl'
                  rw [hset, ← w2, ← s6']
                  have hsl : ((bc.drop off).take (m * t.w)).length = m * t.w := by rw [List.length_take, List.length_drop]; omega
                  have e2 : bc.drop (off + ((((bc.drop off).take (m * t.w)).take ((g e).toNat * t.w + o2)) ++ (s.env x).cells.toList ++ ((bc.drop off).take (m * t.w)).drop ((g e).toNat * t.w + o2 + (s.env x).cells.toList.length)).length) = bc.drop (off + m * t.w) := by
                    congr 2
                    simp only [List.length_append, List.length_take, List.length_drop]
                    omega
                  rw [e2, List.take_take, Nat.min_eq_left (by omega), List.drop_take, List.drop_drop]
                  have e3 : bc.take (off + (g e).toNat * t.w + o2) = bc.take off ++ (bc.drop off).take ((g e).toNat * t.w + o2) := by
                    rw [Nat.add_assoc, List.take_add]
                  have e4 : bc.drop (off + (g e).toNat * t.w + o2 + (s.env x).cells.toList.length) = (bc.drop (off + ((g e).toNat * t.w + o2 + (s.env x).cells.toList.length))).take (m * t.w - ((g e).toNat * t.w + o2 + (s.env x).cells.toList.length)) ++ bc.drop (off + m * t.w) := by
                    have e5 : off + (g e).toNat * t.w + o2 + (s.env x).cells.toList.length = off + ((g e).toNat * t.w + o2 + (s.env x).cells.toList.length) := by omega
                    have e6 : off + m * t.w = off + ((g e).toNat * t.w + o2 + (s.env x).cells.toList.length) + (m * t.w - ((g e).toNat * t.w + o2 + (s.env x).cells.toList.length)) := by omega
                    rw [e5, e6]
                    exact drop_split _ _ _
                  rw [e3, e4]
                  simp only [List.append_assoc]
                have g' : Grow ⟨s.H, Z, hv⟩ ⟨s.H.put b (.cells (setL bc (off + (g e).toNat * t.w + o2) (s.env x).cells.toList) uu false), Z, hv⟩ e (ts' := .arr m t :: A.ts) ((f e).set (g e).toNat (p z (y e)), e) A.ob.length A.ob.length := ⟨fun _ h => h, fun c hc => by
                  show (s.H.put b _).get c = _
                  rw [Hp.get_put, if_neg (by rintro rfl; exact k6 hc)], fun _ _ => rfl, Nat.le_refl _, Ex.push e _⟩
                have hatn : AtsOK ⟨s.H.put b (.cells (setL bc (off + (g e).toNat * t.w + o2) (s.env x).cells.toList) uu false), Z, hv⟩ (ts := .arr m t :: A.ts) ((f e).set (g e).toNat (p z (y e)), e) A.ob.length [.pu A.ts.length] ps'.flatten := .of1 ⟨.arr m t, _, lk_top e _, ps', by rw [List.length_set]; exact s5, rfl, w1.mono fun _ _ => Rep.mono g'.z g'.h _ _ _⟩
                obtain ⟨_, v2⟩ := repA_ok (A := ⟨.arr m t :: A.ts, A.sl, A.ob⟩) hl' (k8.mono g') hatn
                rw [hnew] at v2
                refine ⟨undef, s.H.put b (.cells (setL bc (off + (g e).toNat * t.w + o2) (s.env x).cells.toList) uu false), ?_, (fun h => by simp [reads, hfree] at h), Z, hv, ?_⟩
                · simp only [evOp, r1, storeO, r2]
                  rw [if_pos ⟨by rw [← hun, ← hcl]; simp, trivial, by rw [← hun, ← hcl]; exact hle, by simpa using hcell⟩]
                  rfl
                · exact hs.upd (d := none) (o' := .bx l') (a := .v (.a .nil)) g'.e hj rfl (by rw [r3]; rfl) ⟨b, _, uu, r3, k4, k5, k6, by simp only [Hp.get_put, if_true], v2⟩ (fun h => by cases h)
              · cases h
            · cases h
          · cases h
        · cases h
      · cases h
    · cases h
  · cases h
theorem trNew_ok (hs : SemD H0 Z0 A e s Z hv) {ty : Nat} {zero : List Value} (h : trNew A d zero = some nx) {e' : Pe nx.B.ts} (he : nx.F e = some e') : Did H0 Z0 A s d (.new ty zero) nx.B e' := by
  unfold trNew at h
  split at h
  · rename_i l hl
    cases h; cases he
    refine ⟨.pointer (some ⟨s.H.size, 0, none⟩), _, rfl, (fun h => by simp [reads, hfree] at h), Z, _, hs.grow (Ex.refl e) (Kept.new _ _) (v0 := .pointer (some ⟨s.H.size, 0, none⟩)) ?_ (fun b hb => by cases hb; exact Nat.le_refl _) fun _ => ?_⟩
    · refine ⟨s.H.size, zero, ⟨0, ty, true⟩, rfl, hs.keep.1, by simp only [Hp.size_new]; omega, fun hz => absurd (hs.zs _ hz) (Nat.lt_irrefl _), by simp only [Hp.get_new, if_true], cAs_ok hl⟩
    · exact ⟨by omega, s.H.size, upH_at _ _, rfl⟩
  · cases h
theorem trBox_ok (hs : SemD H0 Z0 A e s Z hv) {ty : Nat} {x : Operand} (h : trBox A d x = some nx) {e' : Pe nx.B.ts} (he : nx.F e = some e') : Did H0 Z0 A s d (.box ty x) nx.B e' := by
  unfold trBox at h
  split at h
  · rename_i v hv'
    cases h; cases he
    have hc := opA_cells hs hv'
    have g : Grow ⟨s.H, Z, hv⟩ ⟨s.H.new (.cells (s.env x).cells.toList ⟨0, ty, true⟩ false), Z, upH hv A.ob.length (.pointer (some ⟨s.H.size, 0, none⟩))⟩ e e A.ob.length (A.ob.length + 1) := ⟨fun _ h => h, fun c hc => by
      show (s.H.new _).get c = _
      rw [Hp.get_new, if_neg (by rintro rfl; exact absurd (hs.zs _ hc) (Nat.lt_irrefl _))], fun j hj => upH_lt _ hj, by omega, Ex.refl e⟩
    refine ⟨.pointer (some ⟨s.H.size, 0, none⟩), _, rfl, (fun h => by simp [reads, hfree] at h), Z, _, hs.grow (Ex.refl e) (Kept.new _ _) (v0 := .pointer (some ⟨s.H.size, 0, none⟩)) ?_ (fun b hb => by cases hb; exact Nat.le_refl _) fun _ => ?_⟩
    · exact ⟨s.H.size, _, ⟨0, ty, true⟩, rfl, hs.keep.1, by simp only [Hp.size_new]; omega, fun hz => absurd (hs.zs _ hz) (Nat.lt_irrefl _), by simp only [Hp.get_new, if_true], hc.mono g⟩
    · exact ⟨by omega, s.H.size, upH_at _ _, rfl⟩
  · cases h
theorem trIxA_ok (hs : SemD H0 Z0 A e s Z hv) {n size : Nat} {x i : Operand} (h : trIxA A d n size x i = some nx) {e' : Pe nx.B.ts} (he : nx.F e = some e') : Did H0 Z0 A s d (.ixA n size x i) nx.B e' := by
  unfold trIxA at h
  split at h
  · rename_i j off g hx hg
    cases h
    simp only [nxP, nxB, nxQ, nxT] at he
    split at he
    · rename_i hr
      cases he
      obtain ⟨k, hk⟩ := exI_ok hs hg
      obtain ⟨hn, b, h1, h2⟩ := opA_a hs hx
      simp only [List.cons.injEq, and_true] at h2
      refine ⟨.pointer (some ⟨b, off + (g e).toNat * size, none⟩), s.H, ?_, (fun _ h => by simp [hfree] at h), Z, hv, hs.pure (Ex.push e _) fun _ => ?_⟩
      · simp only [evOp, h2, hk]
        rw [if_pos hr]
      · exact ⟨hn, g e, b, lk_top e _, h1, hr.1, hr.2, by simp⟩
    · cases he
  · cases h
theorem allD_ok {α : Type} {f : List Value → Option α} {R : α → List Value → Prop} (h : ∀ c x, f c = some x → R x c) : ∀ {l : List (List Value)} {xs : List α}, allD f l = some xs → All2 R xs l
  | [], xs, h1 => by cases h1; exact trivial
  | p :: r, xs, h1 => by
    simp only [allD] at h1
    split at h1
    · rename_i x l h2 h3
      cases h1
      exact ⟨h _ _ h2, allD_ok h h3⟩
    · cases h1
theorem chunk_flat (w : Nat) : ∀ (n : Nat) (cs : List Value), cs.length = n * w → (chunk w n cs).flatten = cs ∧ (chunk w n cs).length = n
  | 0, cs, h => ⟨by simp at h; simp [chunk, h], rfl⟩
  | n + 1, cs, h => by
    obtain ⟨h1, h2⟩ := chunk_flat w n (cs.drop w) (by rw [List.length_drop, h, Nat.add_mul]; omega)
    exact ⟨by simp only [chunk, List.flatten_cons, h1, List.take_append_drop], by simp [chunk, h2]⟩
theorem cD_ok {H : Hp} {Z : Nat → Prop} : ∀ {t : Ty} {cs : List Value} {x : t.den}, cD t cs = some x → Rep H Z t x cs := by
  intro t
  induction t with
  | int k =>
    intro cs x h
    have h' : cDI k cs = some x := h
    unfold cDI at h'
    split at h'
    · split at h'
      · rename_i hk
        subst hk
        cases h'
        rfl
      · cases h'
    · cases h'
  | bool =>
    intro cs x h
    have h' : cDB cs = some x := h
    unfold cDB at h'
    split at h' <;> cases h'
    rfl
  | str =>
    intro cs x h
    have h' : cDS cs = some x := h
    unfold cDS at h'
    split at h' <;> cases h'
    rfl
  | unit =>
    intro cs x h
    simp only [cD] at h
    split at h
    · rename_i hc
      exact List.isEmpty_iff.1 hc
    · cases h
  | sl t _ =>
    intro cs x h
    simp only [cD] at h
    split at h
    · rename_i hc
      unfold cDN at hc
      split at hc
      · cases h
        exact ⟨none, 0, rfl, .inl ⟨rfl, fun _ => rfl⟩⟩
      · cases hc
    · cases h
  | pair a b iha ihb =>
    intro cs x h
    simp only [cD] at h
    split at h
    · rename_i y z h1 h2
      cases h
      exact ⟨_, _, (List.take_append_drop a.w cs).symm, iha h1, ihb h2⟩
    · cases h
  | arr n t ih =>
    intro cs x h
    simp only [cD] at h
    split at h
    · rename_i hl
      obtain ⟨h1, h2⟩ := chunk_flat t.w n cs hl
      have h3 := allD_ok (R := Rep H Z t) (fun c x => ih) h
      exact ⟨_, by rw [← h2]; exact h3.length, h1.symm, h3⟩
    · cases h
theorem zN_ok : ∀ {t : Ty} {ts : List Ty} {cs : List Value} {us : List Ty} {g : Pe ts → Pe us} {l : List At}, zN t ts cs = some ⟨us, g, l⟩ → ∀ e : Pe ts, Ex e (g e) ∧ ∀ (c : Cx) (n : Nat), AtsOK c (g e) n l cs := by
  intro t
  induction t with
  | int k => intro ts cs us g l h; simp [zN] at h
  | bool => intro ts cs us g l h; simp [zN] at h
  | str => intro ts cs us g l h; simp [zN] at h
  | sl t _ => intro ts cs us g l h; simp [zN] at h
  | unit =>
    intro ts cs us g l h e
    cases cs with
    | nil => simp only [zN] at h; cases h; exact ⟨Ex.refl e, fun c n => ⟨[], rfl, trivial⟩⟩
    | cons v r => simp [zN] at h
  | arr n t _ =>
    intro ts cs us g l h e
    simp only [zN] at h
    split at h
    · rename_i x hx
      cases h
      exact ⟨Ex.push e _, fun c n => .of1 ⟨_, x, lk_top e x, cD_ok hx⟩⟩
    · cases h
  | pair a b _ ihb =>
    intro ts cs us g l h e
    have plain : ∀ {v : Value} {r : List Value} {y : At} {us : List Ty} {g : Pe ts → Pe us} {l : List At}, cA v = some y → zN b ts r = some ⟨us, g, l⟩ → Ex e (g e) ∧ ∀ (c : Cx) (n : Nat), AtsOK c (g e) n (y :: l) (v :: r) := by
      intro v r y us g l h1 h2
      obtain ⟨h3, h4⟩ := ihb h2 e
      exact ⟨h3, fun c n => AtsOK.append (l := [y]) (p := [v]) (.of1 (cA_ok h1)) (h4 c n)⟩
    unfold zN at h
    split at h
    · split at h
      · rename_i x hx
        split at h
        · rename_i us' g' l' hz
          cases h
          obtain ⟨h3, h4⟩ := ihb hz (x, e)
          refine ⟨(Ex.push e x).trans h3, fun c n' => ?_⟩
          have h5 : AtsOK c (g' (x, e)) n' [.pu ts.length] (cs.take _) := .of1 ⟨_, x, h3 _ _ (lk_top e x), cD_ok hx⟩
          have h6 := h5.append (h4 c n')
          rw [List.take_append_drop] at h6
          exact h6
        · cases h
      · cases h
    · split at h
      · split at h
        · rename_i h1 h2
          cases h
          exact plain h1 h2
        · cases h
      · cases h
theorem trNewT_ok (hs : SemD H0 Z0 A e s Z hv) {ty : Nat} {t : Ty} {zero : List Value} (h : trNewT A d t zero = some nx) {e' : Pe nx.B.ts} (he : nx.F e = some e') : Did H0 Z0 A s d (.new ty zero) nx.B e' := by
  unfold trNewT at h
  split at h
  · rename_i us g l hl
    cases h; cases he
    obtain ⟨h3, h4⟩ := zN_ok hl e
    refine ⟨.pointer (some ⟨s.H.size, 0, none⟩), _, rfl, (fun h => by simp [reads, hfree] at h), Z, _, hs.grow h3 (Kept.new _ _) (v0 := .pointer (some ⟨s.H.size, 0, none⟩)) ?_ (fun b hb => by cases hb; exact Nat.le_refl _) fun _ => ?_⟩
    · exact ⟨s.H.size, zero, ⟨0, ty, true⟩, rfl, hs.keep.1, by simp only [Hp.size_new]; omega, fun hz => absurd (hs.zs _ hz) (Nat.lt_irrefl _), by simp only [Hp.get_new, if_true], h4 _ _⟩
    · exact ⟨by omega, s.H.size, upH_at _ _, rfl⟩
  · cases h
end
end Go.Proofs.YtehbekgmemebjaaDoorEv
