import Derived.Test.YtehbekgmemebjaaDoorEvZ
import Derived.Test.YtehbekgmemebjaaDoorSlPs
namespace Go.Proofs.YtehbekgmemebjaaDoorEv
open Go
set_option linter.unusedVariables false
set_option linter.unusedSimpArgs false
variable {k : Caller} {s : St}
theorem W.wp {l l' : List DOpr} {H : Hp} {Q : AExit → St → Prop} (h : preD l s = some (l', H)) (h2 : W k (.drawn l') (s.nx H none undef) Q) : W k (.drawnP l) s Q := by
  have e : s.nx H none undef = { s with H := H } := by unfold St.nx; rfl
  rw [e] at h2
  unfold W at *
  obtain ⟨n, ex, s1, h3, h4⟩ := h2
  cases n with
  | zero => simp only [evC] at h3; cases h3
  | succ n =>
    refine ⟨n + 1, ex, s1, ?_, h4⟩
    simp only [evC, h] at h3 ⊢
    exact h3
def WH (k : Caller) (l0 : List DOpr) (I : Nat → Hp → Prop) : Nat → List DOpr → St → (St → Prop) → Prop
  | _, [], s, Q => Q s
  | i, d :: r, s, Q => match evOpr k d.o s with
    | some (.normal, s1) => I (cIdx l0 (i + 1)) s1.H ∧ (d.chain = true ∨ hfree d.o.op = true ∨ ∀ m G, stageOK l0 i d.B m = true → I m G → okAt d ⟨s, s1.getO d.o.dst⟩ G = true) ∧ WH k l0 I (i + 1) r s1 Q
    | _ => False
theorem WH.run {l : List DOpr} (hg : steady l = true) {I : Nat → Hp → Prop} {Q : St → Prop} : ∀ (r pre : List DOpr) (x : DSt), (∀ j G, x.Gs.reverse[j]? = some G → I j G) → l = pre ++ r → x.pan = none → x.Gs.head? = some x.s.H → x.rs.length = pre.length → x.Gs.length = cIdx l pre.length + 1 →
    (∀ i d, i < pre.length → l[i]? = some d → ∃ q, x.rs.reverse[i]? = some (some q) ∧ x.Gs.reverse[cIdx l i]? = some q.s.H ∧ (d.chain = true ∨ hfree d.o.op = true ∨ ∀ m G, stageOK l i d.B m = true → I m G → okAt d q G = true)) → WH k l I pre.length r x.s Q →
    ∃ y, runD k pre.length r x = some y ∧ (∀ j G, y.Gs.reverse[j]? = some G → I j G) ∧ y.pan = none ∧ Q y.s ∧ y.rs.length = l.length ∧ y.Gs.length = cIdx l l.length + 1 ∧
      (∀ i d, i < l.length → l[i]? = some d → ∃ q, y.rs.reverse[i]? = some (some q) ∧ y.Gs.reverse[cIdx l i]? = some q.s.H ∧ (d.chain = true ∨ hfree d.o.op = true ∨ ∀ m G, stageOK l i d.B m = true → I m G → okAt d q G = true)) := by
  intro r
  induction r with
  | nil =>
    intro pre x hGI hl hp hH hr hG hI h
    have : l = pre := by rw [hl]; simp
    subst this
    exact ⟨x, rfl, hGI, hp, h, hr, hG, hI⟩
  | cons d r ih =>
    intro pre x hGI hl hp hH hr hG hI h
    have hd : l[pre.length]? = some d := by rw [hl]; simp
    have hlt := (List.getElem?_eq_some_iff.1 hd).1
    simp only [WH] at h
    split at h
    case h_2 => exact h.elim
    rename_i s1 he
    obtain ⟨hi0, hc, h⟩ := h
    have hstep : stepD k pre.length d x = some { s := s1, Gs := if d.chain then s1.H :: x.Gs else x.Gs, rs := some ⟨x.s, s1.getO d.o.dst⟩ :: x.rs, pan := none } := by
      unfold stepD
      simp only [hp, he]
    have hci : cIdx l (pre.length + 1) = cIdx l pre.length + if d.chain then 1 else 0 := by
      simp only [cIdx, hd, Option.any_some]
    obtain ⟨r1, r2⟩ := steady_at hg hd
    have hsame : d.chain = false → s1.H = x.s.H := fun hch => by
      rcases r1 with r1 | r1
      · rw [hch] at r1; cases r1
      · exact (evOpr_reads_ok r1 he).1
    have hgl : ∀ (j : Nat) (g : Hp), x.Gs.reverse[j]? = some g → ({ s := s1, Gs := if d.chain then s1.H :: x.Gs else x.Gs, rs := some ⟨x.s, s1.getO d.o.dst⟩ :: x.rs, pan := none } : DSt).Gs.reverse[j]? = some g := by
      intro j g hj
      cases hch : d.chain with
      | true =>
        simp only [if_true, List.reverse_cons]
        rw [List.getElem?_append_left (List.getElem?_eq_some_iff.1 hj).1]
        exact hj
      | false => simpa using hj
    obtain ⟨y, hy, rest⟩ := ih (pre ++ [d]) { s := s1, Gs := if d.chain then s1.H :: x.Gs else x.Gs, rs := some ⟨x.s, s1.getO d.o.dst⟩ :: x.rs, pan := none } (by
        intro j G hj
        cases hch : d.chain with
        | true =>
          simp only [hch, if_true, List.reverse_cons] at hj
          by_cases hlt : j < x.Gs.reverse.length
          · rw [List.getElem?_append_left hlt] at hj
            exact hGI j G hj
          · have hjl := (List.getElem?_eq_some_iff.1 hj).1
            rw [List.length_append, List.length_singleton] at hjl
            have : j = x.Gs.reverse.length := by omega
            subst this
            rw [List.getElem?_append_right (Nat.le_refl _), Nat.sub_self] at hj
            cases hj
            rw [List.length_reverse, hG, ← show cIdx l (pre.length + 1) = cIdx l pre.length + 1 by rw [hci, hch]; rfl]
            exact hi0
        | false =>
          simp only [hch, Bool.false_eq_true, if_false] at hj
          exact hGI j G hj) (by rw [hl]; simp) rfl (by
        cases hch : d.chain with
        | true => rfl
        | false => simp only [Bool.false_eq_true, if_false]; rw [hsame hch]; exact hH) (by simp [hr]) (by
        rw [List.length_append, List.length_singleton, hci]
        cases hch : d.chain with
        | true => simp [hG]
        | false => simp [hG]) (by
        intro i d' hi hd'
        rw [List.length_append, List.length_singleton] at hi
        by_cases e : i = pre.length
        · subst e
          rw [hd] at hd'; cases hd'
          refine ⟨⟨x.s, s1.getO d.o.dst⟩, by simp [hr], hgl _ _ ?_, ?_⟩
          · rw [List.getElem?_reverse (by omega), hG]
            have e0 : cIdx l pre.length + 1 - 1 - cIdx l pre.length = 0 := by omega
            rw [e0, ← List.head?_eq_getElem?]
            exact hH
          · exact hc
        · obtain ⟨q, a, b, c⟩ := hI i d' (by omega) hd'
          exact ⟨q, by simp only [List.reverse_cons]; rw [List.getElem?_append_left (by rw [List.length_reverse]; omega)]; exact a, hgl _ _ b, c⟩) (by rw [List.length_append, List.length_singleton]; exact h)
    refine ⟨y, ?_, rest⟩
    simp only [runD, hstep]
    simpa using hy
theorem W.wh {l : List DOpr} (hg : steady l = true) {I : Nat → Hp → Prop} {Q : AExit → St → Prop} (h0 : I 0 s.H) (h : WH k l I 0 l s (Q .normal)) : W k (.drawn l) s Q := by
  obtain ⟨y, h1, hGs, h2, h3, h4, h5, h6⟩ := WH.run hg l [] { s, Gs := [s.H], rs := [], pan := none } (by
    intro j G hG
    cases j with
    | zero => cases hG; exact h0
    | succ j => simp at hG) rfl rfl rfl rfl rfl (fun i d hi => absurd hi (by simp)) h
  refine W.drawn (ex := .normal) (s1 := y.s) ?_ h3
  have hc : checkD l y.rs.reverse y.Gs.reverse = true := by
    unfold checkD
    rw [List.all_eq_true]
    intro i hi
    rw [List.mem_range] at hi
    obtain ⟨q, a, b, c⟩ := h6 i l[i] hi (List.getElem?_eq_getElem hi)
    rw [List.getElem?_eq_getElem hi, a]
    simp only [Bool.or_eq_true, List.all_eq_true, List.mem_range, Bool.not_eq_true']
    rcases c with c | c | c
    · exact .inl (.inl c)
    · exact .inl (.inr c)
    · right
      intro m hml
      cases hs : stageOK l i l[i].B m with
      | false => exact .inl rfl
      | true =>
        right
        rw [List.getElem?_eq_getElem hml]
        exact c m _ hs (hGs m _ (List.getElem?_eq_getElem hml))
  unfold evDrawn
  have h1' : runD k 0 l { s, Gs := [s.H], rs := [], pan := none } = some y := h1
  rw [h1']
  simp only [checkF_D, hc, if_true, h2]
section
variable {l0 : List DOpr} {I : Nat → Hp → Prop} {Q : St → Prop} {d : Option Nat} {op : AOp} {B : NS} {ch : Bool} {r : List DOpr} {i c : Nat}
def stMax (l : List DOpr) (i : Nat) (B : NS) (M : Nat) : Bool := (List.range (cIdx l l.length + 1)).all fun m => !stageOK l i B m || decide (m ≤ M)
theorem WH.nil (h : Q s) : WH k l0 I i [] s Q := h
theorem WH.act {v : Value} {H' : Hp} (e : evOp s.env s.H op = some (.ok v H')) (hk : cIdx l0 (i + 1) = c) (hi : I c H') (hc : (ch || hfree op) = true) (h : WH k l0 I (i + 1) r (s.nx H' d v) Q) : WH k l0 I i (⟨⟨d, op, none⟩, B, ch⟩ :: r) s Q := by
  rw [St.nx] at h
  subst hk
  simp only [WH, evOpr, wantedO, if_true, e]
  refine ⟨by rw [put_H]; exact hi, ?_, h⟩
  rcases Bool.or_eq_true _ _ ▸ hc with hc | hc
  · exact .inl hc
  · exact .inr (.inl hc)
theorem WH.same {v : Value} {H' : Hp} {t M : Nat} (e : evOp s.env s.H op = some (.ok v H')) (hk : cIdx l0 (i + 1) = c) (hi : I c H') (hv : eqV 3 v v = true) (hm : stMax l0 i B M = true) (hM : ∀ m G, I m G → m ≤ cIdx l0 l0.length) (ha : ∀ m G, m ≤ M → I m G → ∃ G', evOp s.env G op = some (.ok v G')) (h : WH k l0 I (i + 1) r (s.nx H' (some t) v) Q) : WH k l0 I i (⟨⟨some t, op, none⟩, B, ch⟩ :: r) s Q := by
  rw [St.nx] at h
  subst hk
  simp only [WH, evOpr, wantedO, if_true, e]
  refine ⟨by rw [put_H]; exact hi, .inr (.inr fun m G hs hG => ?_), h⟩
  have : ({ s with H := H' }.put (some t) v).getO (some t) = v := by
    show ({ s with H := H' }.put (some t) v).get t = v
    rw [gp, if_pos rfl]
  rw [this]
  have hmM : m ≤ M := by
    unfold stMax at hm
    rw [List.all_eq_true] at hm
    have := hm m (List.mem_range.2 (by have := hM m G hG; omega))
    rw [hs] at this
    simpa using this
  obtain ⟨G', hG'⟩ := ha m G hmM hG
  unfold okAt
  simp only [wantedO, if_true, hG']
  exact hv
end
end Go.Proofs.YtehbekgmemebjaaDoorEv
namespace Go.Proofs.YtehbekgmemebjaaDoorEv
open Go Go.RowKit
set_option linter.unusedVariables false
set_option linter.unusedSimpArgs false
attribute [local go_sem] evOp beq_true beq_false List.getElem?_toArray List.getElem?_cons_zero List.getElem?_cons_succ env_tmp env_const env_func env_global nx_get nx_getn nx_H nx_ds nx_df nx_pm get_enter one_ne_zero' zero_ne_one' if_false if_true ite_true ite_false List.getD_cons_zero List.getD_cons_succ Option.map_some Option.map_none Option.bind_some binO unO eqO List.map_toArray List.map_cons List.map_nil Array.append_empty Array.empty_append List.nil_append List.append_nil List.append_toArray List.cons_append ne_eq not_true_eq_false Bool.false_eq_true Bool.not_true Bool.not_false Bool.true_eq_false
structure MK (H : Hp) (mb bn bs : Nat) (s : MS) : Prop where
  m0 : mb < H.size
  n0 : bn < H.size
  s0 : bs < H.size
  mn : mb ≠ bn
  ms : mb ≠ bs
  ns : bn ≠ bs
  gm : ∃ u, H.get mb = some (.cells [.slice (some ⟨bn, 0, none⟩) s.1.length s.1.length, .slice (some ⟨bs, 0, none⟩) s.2.length s.2.length] u false)
  gn : ∃ u : UT, (u.u = 0 ∨ u.u = 4 ∧ u.ty = 55) ∧ H.get bn = some (.cells (s.1.flatMap enc55) u false)
  gs : ∃ u : UT, (u.u = 0 ∨ u.u = 1 ∧ u.ty = 3) ∧ H.get bs = some (.cells (s.2.map (Value.int .i64)) u false)
structure MSt (H H' : Hp) (mb bn bs bn' bs' : Nat) : Prop where
  le : H.size ≤ H'.size
  n : bn' = bn ∨ H.size ≤ bn'
  s : bs' = bs ∨ H.size ≤ bs'
  keep : ∀ c, c < H.size → c ≠ mb → c ≠ bn → c ≠ bs → H'.get c = H.get c
theorem MSt.refl (H : Hp) (mb bn bs : Nat) : MSt H H mb bn bs bn bs := ⟨Nat.le_refl _, .inl rfl, .inl rfl, fun _ _ _ _ _ => rfl⟩
theorem MSt.trans {H H1 H2 : Hp} {mb bn bs bn1 bs1 bn2 bs2 : Nat} (a : MSt H H1 mb bn bs bn1 bs1) (b : MSt H1 H2 mb bn1 bs1 bn2 bs2) : MSt H H2 mb bn bs bn2 bs2 := by
  have h1 := a.le
  have h2 := b.le
  have h3 := a.n
  have h4 := a.s
  refine ⟨by omega, ?_, ?_, fun c hc h5 h6 h7 => ?_⟩
  · rcases b.n with h | h
    · rw [h]; exact a.n
    · exact .inr (by omega)
  · rcases b.s with h | h
    · rw [h]; exact a.s
    · exact .inr (by omega)
  · rw [b.keep c (by omega) h5 (by omega) (by omega)]
    exact a.keep c hc h5 h6 h7
theorem MSt.of {H H' : Hp} (k : Keep H H') (mb bn bs : Nat) : MSt H H' mb bn bs bn bs := ⟨k.1, .inl rfl, .inl rfl, fun c hc _ _ _ => k.2 c hc⟩
theorem MK.old {H H' : Hp} {mb bn bs : Nat} {s : MS} (h : MK H mb bn bs s) (k : Keep H H') : MK H' mb bn bs s := by
  have k1 := k.1
  refine ⟨by have := h.m0; omega, by have := h.n0; omega, by have := h.s0; omega, h.mn, h.ms, h.ns, ?_, ?_, ?_⟩
  · obtain ⟨u, hu⟩ := h.gm
    exact ⟨u, (k.2 _ h.m0).trans hu⟩
  · obtain ⟨u, hu, hg⟩ := h.gn
    exact ⟨u, hu, (k.2 _ h.n0).trans hg⟩
  · obtain ⟨u, hu, hg⟩ := h.gs
    exact ⟨u, hu, (k.2 _ h.s0).trans hg⟩
theorem append_el {H : Hp} {b c ty sz bytes n : Nat} {old new : List Value} {u u2 : UT} {ro2 : Bool} (hb : H.get b = some (.cells old u false)) (hbl : b < H.size) (hu : u.u = 0 ∨ u.u = sz ∧ u.ty = ty) (hl : old.length = n * sz) (hc : H.get c = some (.cells new u2 ro2)) (hnl : new.length = sz) (hnc : new.all isCell = true) (hsz : 0 < sz) (hby : bytes ≤ 100) (hn : n ≤ 100000) :
    ∃ H' u', appendO H ty sz bytes (.slice (some ⟨b, 0, none⟩) n n) (.slice (some ⟨c, 0, none⟩) 1 1) = some (.slice (some ⟨H.size, 0, none⟩) (n + 1) (n + 1), H') ∧ H'.size = H.size + 1 ∧ (u'.u = sz ∧ u'.ty = ty) ∧ H'.get H.size = some (.cells (old ++ new) u' false) ∧ ∀ d, d < H.size → d ≠ b → H'.get d = H.get d := by
  have hmul : (n + 1) * bytes ≤ 100001 * 100 := Nat.mul_le_mul (by omega) hby
  have hs2 : sliceCells H sz (.slice (some ⟨c, 0, none⟩) 1 1) = some new := by
    simp only [sliceCells, hc]
    rw [if_neg (by omega), if_pos (by omega), Nat.one_mul, List.drop_zero, List.take_of_length_le (by omega)]
  have hs1 : sliceCells H sz (.slice (some ⟨b, 0, none⟩) n n) = some old := by
    simp only [sliceCells, hb]
    by_cases h0 : n = 0
    · rw [if_pos h0]
      subst h0
      rw [Nat.zero_mul] at hl
      rw [List.length_eq_zero_iff.1 hl]
    · rw [if_neg h0, if_pos (by omega), List.drop_zero, List.take_of_length_le (by omega)]
  have hk : ∃ Hk, killO H ty sz (some ⟨b, 0, none⟩) = some Hk ∧ Hk.size = H.size ∧ ∀ d, d ≠ b → Hk.get d = H.get d := by
    simp only [killO, hb]
    rcases hu with hu | ⟨h1, h2⟩
    · exact ⟨H, by rw [if_neg (by simp), if_neg (by simp), if_pos hu], rfl, fun _ _ => rfl⟩
    · by_cases h0 : u.u = 0
      · exact ⟨H, by rw [if_neg (by simp), if_neg (by simp), if_pos h0], rfl, fun _ _ => rfl⟩
      · exact ⟨H.put b .dead, by rw [if_neg (by simp), if_neg (by simp), if_neg h0, if_neg (by simp), if_pos ⟨h1, h2⟩], rfl, fun d hd => by rw [Hp.get_put, if_neg (by omega)]⟩
  obtain ⟨Hk, k1, k2, k3⟩ := hk
  refine ⟨Hk.new (.cells (old ++ new) ⟨sz, ty, zO H (some ⟨b, 0, none⟩)⟩ false), ⟨sz, ty, zO H (some ⟨b, 0, none⟩)⟩, ?_, by rw [Hp.size_new, k2], ⟨rfl, rfl⟩, by rw [Hp.get_new, k2, if_pos rfl], fun d hd hdb => by rw [Hp.get_new, k2, if_neg (by omega)]; exact k3 d hdb⟩
  unfold appendO
  simp only [lenO, hs1, hs2, k1, Option.bind_eq_bind, Option.bind_some]
  rw [if_neg (by omega), if_neg (by rw [hnc]; simp; omega)]
theorem enc_all (x : S55) : (enc55 x).all isCell = true := rfl
theorem fill55 (x : S55) : Instr.fill (fun i => some (i * 4, 4)) (bCells #[.string ⟨#[]⟩, .int .i64 0, .int .i64 0, .int .i64 0] (1 * 4)) [(0, .agg #[.string x.f0, .int .i64 x.f1, .int .i64 x.f2, .int .i64 x.f3])] = some #[.string x.f0, .int .i64 x.f1, .int .i64 x.f2, .int .i64 x.f3] := by kernel_rfl
theorem fill1 (v : Int) : Instr.fill (fun i => some (i * 1, 1)) (bCells #[.int .i64 0] (1 * 1)) [(0, .int .i64 v)] = some #[.int .i64 v] := by kernel_rfl
set_option maxHeartbeats 4000000 in
theorem K63 {H : Hp} {mb bn bs : Nat} {s : MS} (hM : MK H mb bn bs s) (he : s.2.length = s.1.length) (hl : s.1.length ≤ 5000) (x : S55) (n : Int) :
    ∃ H' bn' bs', K 63 #[.pointer (some ⟨mb, 0, none⟩), .agg #[.string x.f0, .int .i64 x.f1, .int .i64 x.f2, .int .i64 x.f3], .int .i64 n] H = some (.ret (.int .i64 s.1.length) H') ∧ MK H' mb bn' bs' (putP s x n) ∧ MSt H H' mb bn bs bn' bs' := by
  obtain ⟨m0, n0, s0, mn, ms, ns, ⟨um, gm⟩, ⟨un, hun, gn⟩, ⟨us, hus, gs⟩⟩ := hM
  obtain ⟨M, hMs⟩ : ∃ M, H.size = M := ⟨_, rfl⟩
  rw [hMs] at m0 n0 s0
  have hcx : (Value.agg #[.string x.f0, .int .i64 x.f1, .int .i64 x.f2, .int .i64 x.f3]).cells.toList = enc55 x := rfl
  obtain ⟨H1, hH1⟩ : ∃ H1, H.new (.cells (enc55 x) ⟨0, 55, true⟩ false) = H1 := ⟨_, rfl⟩
  have s1 : H1.size = M + 1 := by rw [← hH1, Hp.size_new, hMs]
  have g1 : ∀ d, H1.get d = if M = d then some (.cells (enc55 x) ⟨0, 55, true⟩ false) else H.get d := fun d => by rw [← hH1, Hp.get_new, hMs]
  obtain ⟨H2, hH2⟩ : ∃ H2, H1.new (.cells (enc55 x) ⟨0, 55, true⟩ false) = H2 := ⟨_, rfl⟩
  have s2 : H2.size = M + 2 := by rw [← hH2, Hp.size_new, s1]
  have g2 : ∀ d, H2.get d = if M + 1 = d then some (.cells (enc55 x) ⟨0, 55, true⟩ false) else H1.get d := fun d => by rw [← hH2, Hp.get_new, s1]
  obtain ⟨H3, un', a1, s3, hun', g3, k3⟩ := append_el (H := H2) (b := bn) (c := M + 1) (ty := 55) (sz := 4) (bytes := 40) (n := s.1.length) (old := s.1.flatMap enc55) (new := enc55 x) (by rw [g2, if_neg (by omega), g1, if_neg (by omega)]; exact gn) (by omega) hun (enc_len _) (by rw [g2, if_pos rfl]) rfl (enc_all x) (by decide) (by decide) (by omega)
  rw [s2] at a1 s3 g3 k3
  have gm3 : H3.get mb = some (.cells [.slice (some ⟨bn, 0, none⟩) s.1.length s.1.length, .slice (some ⟨bs, 0, none⟩) s.2.length s.2.length] um false) := by
    rw [k3 mb (by omega) mn, g2, if_neg (by omega), g1, if_neg (by omega)]; exact gm
  obtain ⟨H4, hH4⟩ : ∃ H4, H3.put mb (.cells [.slice (some ⟨M + 2, 0, none⟩) (s.1.length + 1) (s.1.length + 1), .slice (some ⟨bs, 0, none⟩) s.2.length s.2.length] um false) = H4 := ⟨_, rfl⟩
  have s4 : H4.size = M + 3 := by rw [← hH4, Hp.size_put, s3]
  have g4 : ∀ d, H4.get d = if mb = d then some (.cells [.slice (some ⟨M + 2, 0, none⟩) (s.1.length + 1) (s.1.length + 1), .slice (some ⟨bs, 0, none⟩) s.2.length s.2.length] um false) else H3.get d := fun d => by rw [← hH4, Hp.get_put]
  have st4 : storeO H3 1 (.slice (some ⟨M + 2, 0, none⟩) (s.1.length + 1) (s.1.length + 1)) (.pointer (some ⟨mb, 0, none⟩)) = some H4 := by
    rw [← hH4]; simp only [storeO, gm3]; simp [Value.cells, isCell, setL]
  obtain ⟨H5, hH5⟩ : ∃ H5, H4.new (.cells [.int .i64 n] ⟨0, 3, true⟩ false) = H5 := ⟨_, rfl⟩
  have s5 : H5.size = M + 4 := by rw [← hH5, Hp.size_new, s4]
  have g5 : ∀ d, H5.get d = if M + 3 = d then some (.cells [.int .i64 n] ⟨0, 3, true⟩ false) else H4.get d := fun d => by rw [← hH5, Hp.get_new, s4]
  obtain ⟨H6, us', a6, s6, hus', g6, k6⟩ := append_el (H := H5) (b := bs) (c := M + 3) (ty := 3) (sz := 1) (bytes := 8) (n := s.2.length) (old := s.2.map (Value.int .i64)) (new := [.int .i64 n]) (by rw [g5, if_neg (by omega), g4, if_neg (by omega), k3 bs (by omega) (by omega), g2, if_neg (by omega), g1, if_neg (by omega)]; exact gs) (by omega) hus (by simp) (by rw [g5, if_pos rfl]) rfl rfl (by decide) (by decide) (by omega)
  rw [s5] at a6 s6 g6 k6
  have gm6 : H6.get mb = some (.cells [.slice (some ⟨M + 2, 0, none⟩) (s.1.length + 1) (s.1.length + 1), .slice (some ⟨bs, 0, none⟩) s.2.length s.2.length] um false) := by
    rw [k6 mb (by omega) ms, g5, if_neg (by omega), g4, if_pos rfl]
  obtain ⟨H7, hH7⟩ : ∃ H7, H6.put mb (.cells [.slice (some ⟨M + 2, 0, none⟩) (s.1.length + 1) (s.1.length + 1), .slice (some ⟨M + 4, 0, none⟩) (s.2.length + 1) (s.2.length + 1)] um false) = H7 := ⟨_, rfl⟩
  have s7 : H7.size = M + 5 := by rw [← hH7, Hp.size_put, s6]
  have g7 : ∀ d, H7.get d = if mb = d then some (.cells [.slice (some ⟨M + 2, 0, none⟩) (s.1.length + 1) (s.1.length + 1), .slice (some ⟨M + 4, 0, none⟩) (s.2.length + 1) (s.2.length + 1)] um false) else H6.get d := fun d => by rw [← hH7, Hp.get_put]
  have st7 : storeO H6 1 (.slice (some ⟨M + 4, 0, none⟩) (s.2.length + 1) (s.2.length + 1)) (.pointer (some ⟨mb, 1, none⟩)) = some H7 := by
    rw [← hH7]; simp only [storeO, gm6]; simp [Value.cells, isCell, setL]
  refine ⟨H7, M + 2, M + 4, ?_, ⟨by omega, by omega, by omega, by omega, by omega, by omega, ⟨um, ?_⟩, ⟨un', .inr hun', ?_⟩, ⟨us', .inr hus', ?_⟩⟩, ⟨by omega, .inr (by omega), .inr (by omega), fun c hc c1 c2 c3 => ?_⟩⟩
  rotate_left
  · rw [g7, if_pos rfl]; simp [putP]
  · rw [g7, if_neg (by omega), k6 _ (by omega) (by omega), g5, if_neg (by omega), g4, if_neg (by omega), g3]
    simp [putP]
  · rw [g7, if_neg (by omega), g6]
    simp [putP]
  · rw [g7, if_neg (Ne.symm c1), k6 c (by omega) c3, g5, if_neg (by omega), g4, if_neg (Ne.symm c1), k3 c (by omega) c2, g2, if_neg (by omega), g1, if_neg (by omega)]
  have hP : ∀ G, G = H1 ∨ G = H2 ∨ G = H3 → loadO G (.pointer (some ⟨mb, 0, none⟩)) = some (.slice (some ⟨bn, 0, none⟩) s.1.length s.1.length) ∧ loadAO G 4 (.pointer (some ⟨M, 0, none⟩)) = some (.agg #[.string x.f0, .int .i64 x.f1, .int .i64 x.f2, .int .i64 x.f3]) := by
    have gx3 : H3.get M = some (.cells (enc55 x) ⟨0, 55, true⟩ false) := by rw [k3 M (by omega) (by omega), g2, if_neg (by omega), g1, if_pos rfl]
    have gm2 : H2.get mb = some (.cells [.slice (some ⟨bn, 0, none⟩) s.1.length s.1.length, .slice (some ⟨bs, 0, none⟩) s.2.length s.2.length] um false) := by rw [g2, if_neg (by omega), g1, if_neg (by omega)]; exact gm
    have gx2 : H2.get M = some (.cells (enc55 x) ⟨0, 55, true⟩ false) := by rw [g2, if_neg (by omega), g1, if_pos rfl]
    have gm1 : H1.get mb = some (.cells [.slice (some ⟨bn, 0, none⟩) s.1.length s.1.length, .slice (some ⟨bs, 0, none⟩) s.2.length s.2.length] um false) := by rw [g1, if_neg (by omega)]; exact gm
    have gx1 : H1.get M = some (.cells (enc55 x) ⟨0, 55, true⟩ false) := by rw [g1, if_pos rfl]
    rintro G (rfl | rfl | rfl)
    · exact ⟨by simp only [loadO, gm1]; rfl, by simp only [loadAO, gx1]; rfl⟩
    · exact ⟨by simp only [loadO, gm2]; rfl, by simp only [loadAO, gx2]; rfl⟩
    · exact ⟨by simp only [loadO, gm3]; rfl, by simp only [loadAO, gx3]; rfl⟩
  have p1 := hP H1 (.inl rfl)
  obtain ⟨P, hP1, hP2, hP3, hP⟩ : ∃ P : Hp → Prop, P H1 ∧ P H2 ∧ P H3 ∧ ∀ G, P G → loadO G (.pointer (some ⟨mb, 0, none⟩)) = some (.slice (some ⟨bn, 0, none⟩) s.1.length s.1.length) ∧ loadAO G 4 (.pointer (some ⟨M, 0, none⟩)) = some (.agg #[.string x.f0, .int .i64 x.f1, .int .i64 x.f2, .int .i64 x.f3]) := ⟨_, .inl rfl, .inr (.inl rfl), .inr (.inr rfl), hP⟩
  have f55 := fill55 x
  have f1 := fill1 n
  have l2 : loadO H4 (.pointer (some ⟨mb, 1, none⟩)) = some (.slice (some ⟨bs, 0, none⟩) s.2.length s.2.length) := by simp only [loadO, g4, if_true]; rfl
  have l3 : loadO H7 (.pointer (some ⟨mb, 0, none⟩)) = some (.slice (some ⟨M + 2, 0, none⟩) (s.1.length + 1) (s.1.length + 1)) := by simp only [loadO, g7, if_true]; rfl
  have hw : IntKind.i64.wrap (((s.1.length + 1 : Nat) : Int) - 1) = (s.1.length : Int) := by
    rw [i64w (by omega) (by omega)]; omega
  refine K_call a63_eq (by simp [a63]) ?_
  unfold a63
  have hH1e : H.new (.cells [.string x.f0, .int .i64 x.f1, .int .i64 x.f2, .int .i64 x.f3] ⟨0, 55, true⟩ false) = H1 := hH1
  have hH2e : H1.new (.cells [.string x.f0, .int .i64 x.f1, .int .i64 x.f2, .int .i64 x.f3] ⟨0, 55, true⟩ false) = H2 := hH2
  have hcx2 : (Value.agg #[.string x.f0, .int .i64 x.f1, .int .i64 x.f2, .int .i64 x.f3]).cells.toList = [.string x.f0, .int .i64 x.f1, .int .i64 x.f2, .int .i64 x.f3] := rfl
  repeat' (first
      | refine W.seq ?_
      | refine W.wo ?_
      | refine WO.nil ?_
      | (apply WO.ok; (case e => (simp only [go_sem, Nat.reduceEqDiff, Nat.reduceAdd, reduceIte, hcx2, hMs, hH1e]; first | done | with_reducible rfl))))
  have hvf : eqV 3 (.agg #[.string x.f0, .int .i64 x.f1, .int .i64 x.f2, .int .i64 x.f3]) (.agg #[.string x.f0, .int .i64 x.f1, .int .i64 x.f2, .int .i64 x.f3]) = true := by simp [eqV]
  refine W.wh (I := fun m G => m ≤ 3 ∧ (m ≤ 2 → P G)) (by kernel_rfl) (by simp only [nx_H]; exact ⟨by omega, fun _ => hP1⟩) ?_
  repeat' (first
      | refine WH.nil ?_
      | (apply WH.act (c := 0); (case hk => rfl); (case e => (simp only [go_sem, Nat.reduceEqDiff, Nat.reduceAdd, reduceIte, hH2e, s1, f55, s2, a1, st4, p1.1, p1.2]; first | done | with_reducible rfl)); (case hi => first | exact ⟨by decide, fun h => absurd h (by decide)⟩ | exact ⟨by decide, fun _ => hP1⟩ | (simp only [nx_H]; exact ⟨by decide, fun _ => hP1⟩) | exact ⟨by decide, fun _ => (by simp only [nx_H]; exact hP1)⟩ | exact ⟨by decide, fun _ => hP2⟩ | (simp only [nx_H]; exact ⟨by decide, fun _ => hP2⟩) | exact ⟨by decide, fun _ => (by simp only [nx_H]; exact hP2)⟩ | exact ⟨by decide, fun _ => hP3⟩ | (simp only [nx_H]; exact ⟨by decide, fun _ => hP3⟩) | exact ⟨by decide, fun _ => (by simp only [nx_H]; exact hP3)⟩); (case hc => rfl))
      | (apply WH.same (M := 2) (c := 0); (case hk => rfl); (case e => (simp only [go_sem, Nat.reduceEqDiff, Nat.reduceAdd, reduceIte, hH2e, s1, f55, s2, a1, st4, p1.1, p1.2]; first | done | with_reducible rfl)); (case hi => first | exact ⟨by decide, fun h => absurd h (by decide)⟩ | exact ⟨by decide, fun _ => hP1⟩ | (simp only [nx_H]; exact ⟨by decide, fun _ => hP1⟩) | exact ⟨by decide, fun _ => (by simp only [nx_H]; exact hP1)⟩ | exact ⟨by decide, fun _ => hP2⟩ | (simp only [nx_H]; exact ⟨by decide, fun _ => hP2⟩) | exact ⟨by decide, fun _ => (by simp only [nx_H]; exact hP2)⟩ | exact ⟨by decide, fun _ => hP3⟩ | (simp only [nx_H]; exact ⟨by decide, fun _ => hP3⟩) | exact ⟨by decide, fun _ => (by simp only [nx_H]; exact hP3)⟩); (case hv => first | exact hvf | (simp only [eqV, beq_self_eq_true, Bool.and_self]; done)); (case hm => kernel_rfl); (case hM => intro m G hG; exact hG.1); (case ha => intro m G hm hG; have hq := hP G (hG.2 hm); exact ⟨G, by (simp only [go_sem, Nat.reduceEqDiff, Nat.reduceAdd, reduceIte, hH2e, s1, f55, s2, a1, st4, p1.1, p1.2, hq.1, hq.2]; first | done | with_reducible rfl)⟩))
      | (apply WH.act (c := 1); (case hk => rfl); (case e => (simp only [go_sem, Nat.reduceEqDiff, Nat.reduceAdd, reduceIte, hH2e, s1, f55, s2, a1, st4, p1.1, p1.2]; first | done | with_reducible rfl)); (case hi => first | exact ⟨by decide, fun h => absurd h (by decide)⟩ | exact ⟨by decide, fun _ => hP1⟩ | (simp only [nx_H]; exact ⟨by decide, fun _ => hP1⟩) | exact ⟨by decide, fun _ => (by simp only [nx_H]; exact hP1)⟩ | exact ⟨by decide, fun _ => hP2⟩ | (simp only [nx_H]; exact ⟨by decide, fun _ => hP2⟩) | exact ⟨by decide, fun _ => (by simp only [nx_H]; exact hP2)⟩ | exact ⟨by decide, fun _ => hP3⟩ | (simp only [nx_H]; exact ⟨by decide, fun _ => hP3⟩) | exact ⟨by decide, fun _ => (by simp only [nx_H]; exact hP3)⟩); (case hc => rfl))
      | (apply WH.act (c := 2); (case hk => rfl); (case e => (simp only [go_sem, Nat.reduceEqDiff, Nat.reduceAdd, reduceIte, hH2e, s1, f55, s2, a1, st4, p1.1, p1.2]; first | done | with_reducible rfl)); (case hi => first | exact ⟨by decide, fun h => absurd h (by decide)⟩ | exact ⟨by decide, fun _ => hP1⟩ | (simp only [nx_H]; exact ⟨by decide, fun _ => hP1⟩) | exact ⟨by decide, fun _ => (by simp only [nx_H]; exact hP1)⟩ | exact ⟨by decide, fun _ => hP2⟩ | (simp only [nx_H]; exact ⟨by decide, fun _ => hP2⟩) | exact ⟨by decide, fun _ => (by simp only [nx_H]; exact hP2)⟩ | exact ⟨by decide, fun _ => hP3⟩ | (simp only [nx_H]; exact ⟨by decide, fun _ => hP3⟩) | exact ⟨by decide, fun _ => (by simp only [nx_H]; exact hP3)⟩); (case hc => rfl))
      | (apply WH.act (c := 3); (case hk => rfl); (case e => (simp only [go_sem, Nat.reduceEqDiff, Nat.reduceAdd, reduceIte, hH2e, s1, f55, s2, a1, st4, p1.1, p1.2]; first | done | with_reducible rfl)); (case hi => first | exact ⟨by decide, fun h => absurd h (by decide)⟩ | exact ⟨by decide, fun _ => hP1⟩ | (simp only [nx_H]; exact ⟨by decide, fun _ => hP1⟩) | exact ⟨by decide, fun _ => (by simp only [nx_H]; exact hP1)⟩ | exact ⟨by decide, fun _ => hP2⟩ | (simp only [nx_H]; exact ⟨by decide, fun _ => hP2⟩) | exact ⟨by decide, fun _ => (by simp only [nx_H]; exact hP2)⟩ | exact ⟨by decide, fun _ => hP3⟩ | (simp only [nx_H]; exact ⟨by decide, fun _ => hP3⟩) | exact ⟨by decide, fun _ => (by simp only [nx_H]; exact hP3)⟩); (case hc => rfl)))
  trace_state
  repeat' (first
      | refine W.seq ?_
      | refine W.wo ?_
      | refine WO.nil ?_
      | (apply WO.ok; (case e => (simp only [go_sem, Nat.reduceEqDiff, Nat.reduceAdd, reduceIte, hH5, s4, f1, s5, a6, st7, l2, l3, hw]; first | done | with_reducible rfl)))
      | refine W.ret ?_)
  exact leave0 (by (simp only [go_sem, Nat.reduceEqDiff, Nat.reduceAdd, reduceIte]; first | done | with_reducible rfl)) (res1 (by (simp only [go_sem, Nat.reduceEqDiff, Nat.reduceAdd, reduceIte]; first | done | with_reducible rfl)) (by intro c h; cases h)) (by (simp only [go_sem, Nat.reduceEqDiff, Nat.reduceAdd, reduceIte]; first | done | with_reducible rfl))
end Go.Proofs.YtehbekgmemebjaaDoorEv
