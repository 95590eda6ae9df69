import Derived.Test.YtehbekgmemebjaaDoorPvOfW
namespace Go.Proofs.YtehbekgmemebjaaDoorEv
open Go Go.RowKit Go.Proofs.YtehbekgmemebjaaDoor.PAll.H
set_option linter.unusedVariables false
set_option linter.unusedSimpArgs false
def HLet : Hp := (⟨0, .nil⟩ : Hp).new (.cells lettersV ⟨0, 0, false⟩ true)
theorem HLet_GG : GG HLet := ⟨by decide, _, _, rfl⟩
theorem cells_wr {w : World} {ccs : Array Value} {t : TypeId} {fr : Nat × Nat} (hG : w.heap[0]? = some (.cells ccs t fr)) (hs : 16 ≤ ccs.size) (hl : ∀ j v, lettersV[j]? = some v → ccs[0 + j]? = some v) : ∃ ι, AllRo ι ∧ WR [0] ι HLet w := by
  have h := (WR.empty w).view AllRo.empty (c := 0) (d := 0) (cs := lettersV) hG (by simpa [lettersV] using hs) (fun j v hj => ⟨v, hl j v hj, by
    have := List.mem_of_getElem? hj
    simp only [lettersV, List.mem_cons, List.not_mem_nil, or_false] at this
    rcases this with rfl | rfl | rfl | rfl | rfl | rfl | rfl | rfl | rfl | rfl | rfl | rfl | rfl | rfl | rfl | rfl <;> exact .int _ _⟩)
  refine ⟨_, AllRo.empty.add rfl, h.globs ?_⟩
  intro g hg
  simp only [List.mem_singleton] at hg
  subst hg
  exact ⟨_, add_same _ _ _, rfl, rfl⟩
theorem glob_wr {w : World} (hG : Glob w) : ∃ ι, AllRo ι ∧ WR [0] ι HLet w := by
  obtain ⟨t, fr, hG⟩ := hG
  exact cells_wr hG (by decide) fun j v hj => by
    have : lettersV.toArray[j]? = some v := by simpa using hj
    simpa [lettersV] using this
theorem let_wr {ι : Inj} {H : Hp} {w : World} (hw : WR [0] ι H w) (hG : GG H) : ∃ ι', AllRo ι' ∧ WR [0] ι' HLet w := by
  obtain ⟨_, u, ro, hG⟩ := hG
  obtain ⟨i, h1, h2, h3⟩ := hw.glob 0 (by simp)
  obtain ⟨o, h4, h5⟩ := hw.obj 0 i h1
  rw [hG] at h4
  cases h4
  obtain ⟨_, _, ccs, e, fr, h6, _, _, h7, h8⟩ := h5
  rw [h2] at h6
  rw [h3] at h7 h8
  refine cells_wr h6 (by simpa [lettersV] using h7) fun j v hj => ?_
  obtain ⟨v', h9, h10⟩ := h8 j v hj
  rw [h9]
  have := List.mem_of_getElem? hj
  simp only [lettersV, List.mem_cons, List.not_mem_nil, or_false] at this
  rcases this with rfl | rfl | rfl | rfl | rfl | rfl | rfl | rfl | rfl | rfl | rfl | rfl | rfl | rfl | rfl | rfl <;> cases h10 <;> rfl
def isTrue : Option CR → Bool
  | some (.ret (.bool b) _) => b
  | _ => false
set_option maxRecDepth 100000 in
theorem sane_run : isTrue (evCall noX (compFunc Tryd.prog [0]) 60 13 #[] HLet) = true := by kernel_rfl
theorem isTrue_inv {r : Option CR} (h : isTrue r = true) : ∃ H', r = some (.ret (.bool true) H') := by
  unfold isTrue at h
  split at h
  · subst h; exact ⟨_, rfl⟩
  · cases h
theorem orc13_ok : CallOK Tryd.prog [0] (orc 13 GG) := by
  obtain ⟨H', hr⟩ := isTrue_inv sane_run
  have h := call_ok (by kernel_rfl) noX_ok CodeOK.comp 60 _ _ _ _ hr
  refine orc_ok h.1 fun ι H w hw hG => ?_
  obtain ⟨ι1, hro, hw1⟩ := let_wr hw hG
  refine (h.2 ι1 w #[] hw1 ⟨rfl, fun j v v' e => by simp at e⟩).mono ?_
  rintro e w' ⟨v', ι2, rfl, hn, hvr, hwr, hf, _⟩
  cases hvr
  exact ⟨rfl, hf.below hro⟩
theorem WR.below {GL : List Nat} {ι : Inj} {H : Hp} {w w' : World} (h : WR GL ι H w) (hb : Below w.heap.size w w') : WR GL ι H w' := by
  refine ⟨fun b i hi => ?_, fun b i hi => ?_, h.inj, h.glob⟩
  · obtain ⟨o, h1, h2⟩ := h.obj b i hi
    exact ⟨o, h1, h2.mono (Ext.refl ι) (hb.block i.c (h.dom b i hi).2)⟩
  · have := h.dom b i hi
    exact ⟨this.1, Nat.lt_of_lt_of_le this.2 hb.size⟩
theorem Fr.of_below {ι : Inj} {w w' : World} (hb : Below w.heap.size w w') : Fr ι w w' := ⟨hb.os, hb.tape, hb.output, hb.size, fun c hc _ => hb.block c hc⟩
theorem WR.made {GL : List Nat} {ι : Inj} {H : Hp} {w : World} (h : WR GL ι H w) {n c : Nat} (hn : n ≤ c) (hd : ∀ b i, ι b = some i → i.c < n) {cs : List Value} {ccs : Array Value} (hb : w.heap[c]? = some (.cells ccs 55 (0, 0))) (hl : cs.length ≤ ccs.size)
    (hv : ∀ (j : Nat) (v : Value), cs[j]? = some v → ∃ v', ccs[j]? = some v' ∧ VR ι v v') :
    WR GL (ι.add H.size ⟨c, 0, 4, ccs.size, false⟩) (H.new (.cells cs ⟨4, 55, false⟩ false)) w := by
  have hx := add_ext (i := ⟨c, 0, 4, ccs.size, false⟩) h.lt
  have hlt : c < w.heap.size := (Array.getElem?_eq_some_iff.1 hb).1
  refine ⟨?_, ?_, ?_, ?_⟩
  · intro b j hj
    unfold Inj.add at hj
    split at hj
    · subst_vars; cases hj
      refine ⟨.cells cs ⟨4, 55, false⟩ false, by rw [Hp.get_new, if_pos rfl], ⟨rfl, fun h => (by cases h)⟩, rfl, ccs, 55, (0, 0), hb, rfl, fun _ => ⟨fun x _ hc => by omega, fun h => (by cases h), rfl, fun h => (by cases h), fun _ h => (by cases h)⟩, by simpa using hl, fun j v hv' => ?_⟩
      obtain ⟨v', a, b⟩ := hv j v hv'
      exact ⟨v', by simpa using a, b.ext hx⟩
    · obtain ⟨o1, hg, hk⟩ := h.obj b j hj
      have := h.dom b j hj
      exact ⟨o1, by rw [Hp.get_new, if_neg (by omega)]; exact hg, hk.mono hx rfl⟩
  · intro b j hj
    unfold Inj.add at hj
    split at hj
    · subst_vars; cases hj
      exact ⟨by rw [Hp.size_new]; omega, hlt⟩
    · have := h.dom b j hj
      exact ⟨by rw [Hp.size_new]; omega, this.2⟩
  · intro b b' j j' hj hj' hne hl1 hl2 hro
    unfold Inj.add at hj hj'
    split at hj <;> split at hj'
    · subst_vars; exact absurd rfl hne
    · cases hj
      have := hd _ _ hj'
      show c ≠ j'.c
      omega
    · cases hj'
      have := hd _ _ hj
      show j.c ≠ c
      omega
    · have d1 := h.dom _ _ hj
      have d2 := h.dom _ _ hj'
      rw [Hp.get_new, if_neg (by omega)] at hl1 hl2
      exact h.inj b b' j j' hj hj' hne hl1 hl2 hro
  · intro g hg
    obtain ⟨j, e1, r⟩ := h.glob g hg
    exact ⟨j, hx _ _ e1, r⟩
theorem C41 {ι : Inj} {H : Hp} {w : World} (hw : WR [0] ι H w) (hG : GG H) (s : ByteArray) : Calls Tryd.prog 41 #[.int .i64 8, .string s] w fun e w' => e = .returned (.int .i64 (checkS s)) ∧ Below w.heap.size w w' := by
  obtain ⟨ι1, hro, hw1⟩ := let_wr hw hG
  obtain ⟨H', hk, _⟩ := GK41 (xq := noX) (fun _ _ _ _ => rfl) s HLet HLet_GG
  have h := lim_ok (P := Tryd.prog) (GL := [0]) (by kernel_rfl) noX_ok CodeOK.comp 41 _ _ _ hk
  refine (h.2 ι1 w #[.int .i64 8, .string s] hw1 ⟨rfl, fun j v v' e e' => ?_⟩).mono ?_
  · match j, e, e' with
    | 0, e, e' => simp at e e'; subst e e'; exact .int _ _
    | 1, e, e' => simp at e e'; subst e e'; exact .string _
  · rintro e w' ⟨v', ι2, rfl, hn, hvr, hwr, hf, _⟩
    cases hvr
    exact ⟨rfl, hf.below hro⟩
theorem enc_same : ∀ l : List Nd, l.flatMap encO = l.flatMap encN := fun _ => rfl
theorem VR_encN (ι : Inj) (l : List Nd) : ∀ v ∈ l.flatMap encN, VR ι v v := by
  intro v hv
  obtain ⟨x, _, hx⟩ := List.mem_flatMap.1 hv
  simp only [encN, List.mem_cons, List.not_mem_nil, or_false] at hx
  rcases hx with rfl | rfl | rfl | rfl
  · exact .string _
  · exact .int _ _
  · exact .int _ _
  · exact .int _ _
theorem VR_two {ι : Inj} {a b a' b' : Value} (h : VR ι a a') (k : VR ι b b') : VR ι (.tuple #[a, b]) (.tuple #[a', b']) := .tuple _ _ rfl fun j v v' e e' => by
  match j, e, e' with
  | 0, e, e' => simp at e e'; subst e e'; exact h
  | 1, e, e' => simp at e e'; subst e e'; exact k
theorem of20_ok : CallOK Tryd.prog [0] of20 := by
  intro f a H r hr
  unfold of20 at hr
  split at hr
  · rename_i h
    have hs := h.2.2.choose_spec
    obtain ⟨s, hsd⟩ : ∃ s, h.2.2.choose = s := ⟨_, rfl⟩
    rw [hsd] at hr hs
    have hf := h.1
    have hG := h.2.1
    clear hsd h
    subst hs hf
    refine ⟨⟨_, Tryd.func20, by kernel_rfl, rfl⟩, fun ι w args' hw hva => ?_⟩
    obtain rfl : args' = #[.string s] := by
      have hz := hva.1
      match args', hz with
      | ⟨[x]⟩, _ =>
        have := hva.2 0 (.string s) x rfl rfl
        cases this
        rfl
    refine (Of_calls s w (checkS s) (C41 hw hG s) (fun hc => ?_)).mono ?_
    · unfold checkS at hc
      split at hc
      · assumption
      · cases hc
    rintro e w' ⟨hb, hcase⟩
    have hw' := hw.below hb
    have hfr : Fr ι w w' := Fr.of_below hb
    rcases hcase with ⟨hc, rfl⟩ | ⟨hc, v, rfl, hr', hn⟩
    · rw [if_neg hc] at hr
      cases hr
      exact ⟨_, ι, rfl, New.refl _ _ _, VR_two .snil (.int _ _), hw', hfr, Nat.le_refl _⟩
    · rw [if_pos hc] at hr
      rw [enc_same] at hr'
      split at hr
      · rename_i h0
        cases hr
        have : v = .slice none 0 0 := hn.2 (List.length_eq_zero_iff.1 h0)
        subst this
        exact ⟨_, ι, rfl, New.refl _ _ _, VR_two .snil (.int _ _), hw', hfr, Nat.le_refl _⟩
      · rename_i h0
        cases hr
        rcases hr'.2 with ⟨_, hz⟩ | ⟨g, cap, cur, rfl, hg, hgb, hc1, hc2, hc3, hc4⟩
        · exact absurd hz h0
        · have hlen := hr'.1
          have hd : ∀ b i, ι b = some i → i.c < w.heap.size := fun b i hi => (hw.dom b i hi).2
          have hcl : ((ofS s).flatMap encN).length ≤ cur.size := by rw [hlen, hc3]; exact Nat.mul_le_mul_right _ hc1
          have hm := hw'.made hg hd (cs := (ofS s).flatMap encN) hgb hcl fun j u hj => by
            refine ⟨u, ?_, VR_encN _ _ u (List.mem_of_getElem? hj)⟩
            have hjl : j < (ofS s).length * 4 := by rw [← hlen]; exact (List.getElem?_eq_some_iff.1 hj).1
            rw [← hc4, List.getElem?_take, if_pos hjl] at hj
            simpa using hj
          have hx := add_ext (i := ⟨g, 0, 4, cur.size, false⟩) hw.lt
          refine ⟨_, ι.add H.size ⟨g, 0, 4, cur.size, false⟩, rfl, ⟨hx, fun b i hi h1 => ?_⟩, VR_two (.arg _ _ _ _ _ hc1 fun _ => ⟨_, add_same _ _ _, rfl⟩) (.int _ _), hm, hfr, by rw [Hp.size_new]; omega⟩
          unfold Inj.add at hi
          split at hi
          · subst_vars; cases hi
            exact ⟨Nat.le_refl _, rfl, .inl hg⟩
          · rw [h1] at hi; cases hi
  · cases hr
theorem xo_ok : CallOK Tryd.prog [0] xo := by
  intro f a H r hr
  unfold xo at hr
  split at hr
  · rename_i r' h'
    cases hr
    exact orc13_ok f a H _ h'
  · exact of20_ok f a H r hr
theorem KK_ok : CallOK Tryd.prog [0] KK := lim_ok (by kernel_rfl) xo_ok CodeOK.comp
def F13 (_ : Nat) (_ : Unit) : Option (Bool × Unit) := some (true, ())
def pc13 : PC KK GG := ⟨13, [], [(.bool, none)], F13, fun k H Z e vs hG hz ha r hr => by
  obtain rfl : vs = [] := by
    match vs, ha with
    | [], _ => rfl
  cases hr
  refine ⟨.bool true, H, Z, [.bool true], ?_, Kept.refl H, fun _ h => h, hz, fun _ h _ => h, rfl, ?_⟩
  · exact lim_iff.2 ⟨1, by simp only [evCall, xo, orc, if_pos, hG, and_self, true_and]⟩
  · exact ⟨rfl, trivial⟩⟩
end Go.Proofs.YtehbekgmemebjaaDoorEv
namespace Go.Proofs.YtehbekgmemebjaaDoorEv
open Go Go.RowKit Go.Proofs.YtehbekgmemebjaaDoor.PAll.H Go.Proofs.YtehbekgmemebjaaDoorW.PrintWords
set_option linter.unusedVariables false
set_option linter.unusedSimpArgs false
def Evn {α : Type} (g : Nat → Option α) (r : α) : Prop := ∃ n, ∀ k, n ≤ k → g k = some r
theorem Evn.now {α : Type} (r : α) : Evn (fun _ => some r) r := ⟨0, fun _ _ => rfl⟩
theorem Evn.eq {α : Type} {g : Nat → Option α} {r : α} (h : ∀ k, g k = some r) : Evn g r := ⟨0, fun k _ => h k⟩
theorem Evn.congr {α : Type} {f g : Nat → Option α} {r : α} (e : ∀ k, f k = g k) (h : Evn g r) : Evn f r := by
  obtain ⟨n, h⟩ := h
  exact ⟨n, fun k hk => (e k).trans (h k hk)⟩
theorem Evn.bind {α β : Type} {f : Nat → Option α} {g : Nat → α → Option β} {a : α} {r : β} (h : Evn f a) (h' : Evn (fun k => g k a) r) : Evn (fun k => (f k).bind (g k)) r := by
  obtain ⟨n, h⟩ := h
  obtain ⟨m, h'⟩ := h'
  refine ⟨max n m, fun k hk => ?_⟩
  simp only [h k (by omega), Option.bind_some]
  exact h' k (by omega)
theorem Evn.succ {α : Type} {f g : Nat → Option α} {r : α} (e : ∀ k, f (k + 1) = g k) (h : Evn g r) : Evn f r := by
  obtain ⟨n, h⟩ := h
  refine ⟨n + 1, fun k hk => ?_⟩
  obtain ⟨k, rfl⟩ : ∃ m, k = m + 1 := ⟨k - 1, by omega⟩
  rw [e]
  exact h k (by omega)
def EvI {α β : Type} (F : Nat → α → Option (Sum α β)) (a : α) (b : β) : Prop := ∃ n, ∀ k m, n ≤ k → n ≤ m → iter (F k) m a = some b
theorem EvI.done {α β : Type} {F : Nat → α → Option (Sum α β)} {a : α} {b : β} (h : Evn (fun k => F k a) (.inr b)) : EvI F a b := by
  obtain ⟨n, h⟩ := h
  refine ⟨n + 1, fun k m hk hm => ?_⟩
  obtain ⟨m, rfl⟩ : ∃ j, m = j + 1 := ⟨m - 1, by omega⟩
  simp only [iter, h k (by omega)]
theorem EvI.step {α β : Type} {F : Nat → α → Option (Sum α β)} {a a' : α} {b : β} (h : Evn (fun k => F k a) (.inl a')) (h' : EvI F a' b) : EvI F a b := by
  obtain ⟨n, h⟩ := h
  obtain ⟨n', h'⟩ := h'
  refine ⟨max n n' + 1, fun k m hk hm => ?_⟩
  obtain ⟨m, rfl⟩ : ∃ j, m = j + 1 := ⟨m - 1, by omega⟩
  simp only [iter, h k (by omega)]
  exact h' k m (by omega) (by omega)
theorem EvI.ev {α β : Type} {F : Nat → α → Option (Sum α β)} {a : α} {b : β} (h : EvI F a b) : Evn (fun k => iter (F k) k a) b := by
  obtain ⟨n, h⟩ := h
  exact ⟨n, fun k hk => h k k hk hk⟩
def z55 : S55 := ⟨⟨#[]⟩, 0, 0, 0⟩
def rd_T55 (xs : List S55) (i : Int) : S55 := xs.getD i.toNat z55
theorem w64 {x : Int} (h : -9223372036854775808 ≤ x) (h' : x ≤ 9223372036854775807) : wrap64 x = x := by unfold wrap64; omega
inductive LetR (l : List S55) (o : List Int) : Int → Int → Int → Prop
  | leaf (n i : Int) (h0 : 0 ≤ n) (h1 : n < l.length) (hw : (rd_T55 l n).f0.toList ≠ []) (i0 : 0 ≤ i) (i1 : i < (rd_T55 l n).f0.size) : LetR l o n i (bt (rd_T55 l n).f0 i)
  | times (n i c : Int) (h0 : 0 ≤ n) (h1 : n < l.length) (hw : (rd_T55 l n).f0.toList = []) (ht : (rd_T55 l n).f3 > 0) (f0 : 0 ≤ (rd_T55 l n).f1) (f1 : (rd_T55 l n).f1 < o.length) (hz : rd o (rd_T55 l n).f1 ≠ 0)
      (h : LetR l o (rd_T55 l n).f1 (Int.tmod i (rd o (rd_T55 l n).f1)) c) : LetR l o n i c
  | left (n i c : Int) (h0 : 0 ≤ n) (h1 : n < l.length) (hw : (rd_T55 l n).f0.toList = []) (ht : ¬ (rd_T55 l n).f3 > 0) (f0 : 0 ≤ (rd_T55 l n).f1) (f1 : (rd_T55 l n).f1 < o.length) (hi : i < rd o (rd_T55 l n).f1)
      (h : LetR l o (rd_T55 l n).f1 i c) : LetR l o n i c
  | right (n i c : Int) (h0 : 0 ≤ n) (h1 : n < l.length) (hw : (rd_T55 l n).f0.toList = []) (ht : ¬ (rd_T55 l n).f3 > 0) (f0 : 0 ≤ (rd_T55 l n).f1) (f1 : (rd_T55 l n).f1 < o.length) (hi : ¬ i < rd o (rd_T55 l n).f1)
      (h : LetR l o (rd_T55 l n).f2 (wrap64 (i - rd o (rd_T55 l n).f1)) c) : LetR l o n i c
theorem lensF_spec : ∀ (rest : List S55) (done out : List Int), lensF done rest = some out → out.length = done.length + rest.length ∧ out.take done.length = done ∧ ∀ (j : Nat) (x : S55), rest[j]? = some x → ∃ v, stepL (out.take (done.length + j)) x = some v ∧ out[done.length + j]? = some v := by
  intro rest
  induction rest with
  | nil =>
    intro done out h
    simp only [lensF, Option.some.injEq] at h
    subst h
    exact ⟨by simp, by simp, fun j x hx => by simp at hx⟩
  | cons y r ih =>
    intro done out h
    simp only [lensF, Option.bind_eq_some_iff] at h
    obtain ⟨v, hv, h⟩ := h
    obtain ⟨a, b, c⟩ := ih (done ++ [v]) out h
    rw [List.length_append, List.length_singleton] at a b c
    have b2 : out.take done.length = done := by
      have := congrArg (List.take done.length) b
      rw [List.take_take, Nat.min_eq_left (by omega), List.take_left] at this
      exact this
    refine ⟨by simp only [List.length_cons]; omega, b2, fun j x hx => ?_⟩
    cases j with
    | zero =>
      simp only [List.getElem?_cons_zero, Option.some.injEq] at hx
      subst hx
      refine ⟨v, by rw [Nat.add_zero, b2]; exact hv, ?_⟩
      have := congrArg (fun l => l[done.length]?) b
      simp only [List.getElem?_take] at this
      rw [if_pos (by omega)] at this
      rw [Nat.add_zero, this]
      simp
    | succ j =>
      simp only [List.getElem?_cons_succ] at hx
      obtain ⟨v', p, q⟩ := c j x hx
      exact ⟨v', by rw [show done.length + (j + 1) = done.length + 1 + j by omega]; exact p, by rw [show done.length + (j + 1) = done.length + 1 + j by omega]; exact q⟩
theorem lensF_good : ∀ (rest : List S55) (done out : List Int), goodL done → lensF done rest = some out → goodL out := by
  intro rest
  induction rest with
  | nil =>
    intro done out hg h
    simp only [lensF, Option.some.injEq] at h
    subst h; exact hg
  | cons y r ih =>
    intro done out hg h
    simp only [lensF, Option.bind_eq_some_iff] at h
    obtain ⟨v, hv, h⟩ := h
    refine ih _ _ ?_ h
    intro z hz
    rcases List.mem_append.1 hz with hz | hz
    · exact hg z hz
    · rw [List.mem_singleton.1 hz]; exact stepL_good hg hv
structure Rope (l : List S55) (out : List Int) : Prop where
  le : l.length ≤ 4000
  len : out.length = l.length
  good : goodL out
  node : ∀ (j : Nat) (x : S55), l[j]? = some x → ∃ v, stepL (out.take j) x = some v ∧ out[j]? = some v
theorem rope_of {l : List S55} {out : List Int} (h : lens l = some out) : Rope l out := by
  unfold lens at h
  split at h
  · rename_i hl
    obtain ⟨a, _, c⟩ := lensF_spec l [] out h
    exact ⟨hl, by simpa using a, lensF_good l [] out (fun v hv => by cases hv) h, fun j x hx => by simpa using c j x hx⟩
  · cases h
theorem lensF_of : ∀ (rest : List S55) (done out : List Int), out.length = done.length + rest.length → out.take done.length = done → (∀ (j : Nat) (x : S55), rest[j]? = some x → ∃ v, stepL (out.take (done.length + j)) x = some v ∧ out[done.length + j]? = some v) → lensF done rest = some out := by
  intro rest
  induction rest with
  | nil =>
    intro done out a b _
    simp only [List.length_nil, Nat.add_zero] at a
    rw [← a, List.take_length] at b
    simp only [lensF, b]
  | cons y r ih =>
    intro done out a b c
    obtain ⟨v, p, q⟩ := c 0 y rfl
    rw [Nat.add_zero, b] at p
    rw [Nat.add_zero] at q
    simp only [lensF, p, Option.bind_some]
    refine ih (done ++ [v]) out (by simp only [List.length_cons] at a; simp; omega) ?_ fun j x hx => ?_
    · rw [List.length_append, List.length_singleton, List.take_add_one, b, q]; rfl
    · obtain ⟨v', p', q'⟩ := c (j + 1) x (by simpa using hx)
      rw [List.length_append, List.length_singleton]
      exact ⟨v', by rw [show done.length + 1 + j = done.length + (j + 1) by omega]; exact p', by rw [show done.length + 1 + j = done.length + (j + 1) by omega]; exact q'⟩
theorem rope_lens {l : List S55} {out : List Int} (h : Rope l out) : lens l = some out := by
  unfold lens
  rw [if_pos h.le]
  exact lensF_of l [] out (by simpa using h.len) rfl fun j x hx => by simpa using h.node j x hx
theorem rdT_at {l : List S55} {j : Nat} {x : S55} (h : l[j]? = some x) : rd_T55 l (j : Int) = x := by
  unfold rd_T55
  rw [Int.toNat_natCast, List.getD_eq_getElem?_getD, h]; rfl
theorem rd_at' {l : List Int} {j : Nat} {v : Int} (h : l[j]? = some v) : rd l (j : Int) = v := by
  unfold rd
  rw [Int.toNat_natCast, List.getD_eq_getElem?_getD, h]; rfl
theorem rd_take {l : List Int} {j : Nat} {i : Int} (h0 : 0 ≤ i) (h1 : i < (l.take j).length) : rd (l.take j) i = rd l i := by
  unfold rd
  have : i.toNat < (l.take j).length := by omega
  rw [List.getD_eq_getElem?_getD, List.getD_eq_getElem?_getD, List.getElem?_take, if_pos (by rw [List.length_take] at this; omega)]
theorem toList_size (s : ByteArray) : s.toList = [] ↔ s.size = 0 := by
  rw [ByteArray.toList_eq]
  obtain ⟨⟨l⟩⟩ := s
  show l = [] ↔ l.length = 0
  exact List.length_eq_zero_iff.symm
inductive NodeIs (out : List Int) (j : Nat) (x : S55) (v : Int) : Prop
  | leaf (h : x.f0.size ≠ 0) (hv : v = x.f0.size)
  | times (h : x.f0.size = 0) (ht : 1 ≤ x.f3) (h0 : 0 ≤ x.f1) (h1 : x.f1 < j) (h2 : x.f2 = 0) (hv : v = x.f3 * rd out x.f1)
  | pair (h : x.f0.size = 0) (ht : x.f3 = 0) (h0 : 0 ≤ x.f1) (h1 : x.f1 < j) (g0 : 0 ≤ x.f2) (g1 : x.f2 < j) (hv : v = rd out x.f1 + rd out x.f2)
theorem Rope.is {l : List S55} {out : List Int} (h : Rope l out) {j : Nat} {x : S55} (hx : l[j]? = some x) : ∃ v, out[j]? = some v ∧ 1 ≤ v ∧ v ≤ 1152921504606846976 ∧ NodeIs out j x v := by
  obtain ⟨v, hs, hv⟩ := h.node j x hx
  have hg := h.good v (List.mem_of_getElem? hv)
  refine ⟨v, hv, hg.1, hg.2, ?_⟩
  have hlen : (out.take j).length = j := by
    have := (List.getElem?_eq_some_iff.1 hv).1
    rw [List.length_take]; omega
  unfold stepL at hs
  split at hs
  · rename_i h0
    split at hs
    · rename_i h3
      split at hs
      · rename_i hc
        obtain ⟨a, b, c, d, e⟩ := hc
        cases hs
        refine .pair h0 h3 a (by omega) c (by omega) ?_
        rw [rd_take a b, rd_take c d]
      · cases hs
    · split at hs
      · rename_i hc
        obtain ⟨a, b, c, d, e⟩ := hc
        cases hs
        refine .times h0 a b (by omega) d ?_
        rw [rd_take b c]
      · cases hs
  · rename_i h0
    split at hs
    · cases hs; exact .leaf h0 rfl
    · cases hs
theorem LetR.exists {l : List S55} {out : List Int} (h : Rope l out) : ∀ (N j : Nat), j ≤ N → j < l.length → ∀ i : Int, 0 ≤ i → i < rd out (j : Int) → ∃ c, LetR l out (j : Int) i c := by
  intro N
  induction N with
  | zero =>
    intro j hj hl i i0 i1
    have hx : l[j]? = some l[j] := List.getElem?_eq_getElem hl
    obtain ⟨v, hv, v1, v2, hn⟩ := h.is hx
    have hr := rdT_at hx
    rw [rd_at' hv] at i1
    cases hn with
    | leaf h0 e => exact ⟨_, .leaf _ _ (by omega) (by omega) (by rw [hr]; intro hc; exact h0 ((toList_size _).1 hc)) i0 (by rw [hr]; omega)⟩
    | times h0 ht a b _ e => omega
    | pair h0 ht a b _ _ e => omega
  | succ N ih =>
    intro j hj hl i i0 i1
    have hx : l[j]? = some l[j] := List.getElem?_eq_getElem hl
    obtain ⟨v, hv, v1, v2, hn⟩ := h.is hx
    have hr := rdT_at hx
    rw [rd_at' hv] at i1
    have hlen := h.len
    cases hn with
    | leaf h0 e => exact ⟨_, .leaf _ _ (by omega) (by omega) (by rw [hr]; intro hc; exact h0 ((toList_size _).1 hc)) i0 (by rw [hr]; omega)⟩
    | times h0 ht a b _ e =>
      have hp := h.good.rd a (by omega)
      obtain ⟨c, hc⟩ := ih (l[j].f1.toNat) (by omega) (by omega) (Int.tmod i (rd out l[j].f1)) (Int.tmod_nonneg _ i0) (by
        rw [Int.toNat_of_nonneg a]
        exact Int.tmod_lt_of_pos _ (by omega))
      rw [Int.toNat_of_nonneg a] at hc
      refine ⟨c, .times _ _ _ (by omega) (by omega) (by rw [hr]; exact (toList_size _).2 h0) (by rw [hr]; omega) (by rw [hr]; exact a) (by rw [hr]; omega) (by rw [hr]; omega) ?_⟩
      rw [hr]; exact hc
    | pair h0 ht a b a' b' e =>
      have hp := h.good.rd a (by omega)
      by_cases hlt : i < rd out l[j].f1
      · obtain ⟨c, hc⟩ := ih (l[j].f1.toNat) (by omega) (by omega) i i0 (by rw [Int.toNat_of_nonneg a]; exact hlt)
        rw [Int.toNat_of_nonneg a] at hc
        refine ⟨c, .left _ _ _ (by omega) (by omega) (by rw [hr]; exact (toList_size _).2 h0) (by rw [hr]; omega) (by rw [hr]; exact a) (by rw [hr]; omega) (by rw [hr]; exact hlt) ?_⟩
        rw [hr]; exact hc
      · have hw : wrap64 (i - rd out l[j].f1) = i - rd out l[j].f1 := w64 (by omega) (by omega)
        obtain ⟨c, hc⟩ := ih (l[j].f2.toNat) (by omega) (by omega) (i - rd out l[j].f1) (by omega) (by rw [Int.toNat_of_nonneg a']; omega)
        rw [Int.toNat_of_nonneg a'] at hc
        refine ⟨c, .right _ _ _ (by omega) (by omega) (by rw [hr]; exact (toList_size _).2 h0) (by rw [hr]; omega) (by rw [hr]; exact a) (by rw [hr]; omega) (by rw [hr]; exact hlt) ?_⟩
        rw [hr, hw]; exact hc
theorem rd_app_left {a b : List Int} {i : Int} (h0 : 0 ≤ i) (h1 : i < a.length) : rd (a ++ b) i = rd a i := by
  unfold rd
  rw [List.getD_eq_getElem?_getD, List.getD_eq_getElem?_getD, List.getElem?_append_left (by omega)]
theorem rd_app_right {a b : List Int} {i : Int} (h0 : 0 ≤ i) : rd (a ++ b) (i + a.length) = rd b i := by
  unfold rd
  rw [List.getD_eq_getElem?_getD, List.getD_eq_getElem?_getD, List.getElem?_append_right (by omega)]
  congr 2
  omega
def lastL (o : List Int) : Int := rd o ((o.length : Int) - 1)
def wholeL (o : List Int) : Int := if o.length = 0 then 0 else lastL o
theorem wholeL_range {l : List S55} {o : List Int} (hl : lens l = some o) : 0 ≤ wholeL o ∧ wholeL o ≤ 1152921504606846976 := by
  have hr := rope_of hl
  unfold wholeL
  split
  · omega
  · have := hr.good.rd (i := (o.length : Int) - 1) (by omega) (by omega)
    unfold lastL; omega
theorem whole_pos {l : List S55} {o : List Int} (hl : lens l = some o) {i : Int} (h0 : 0 ≤ i) (h1 : i < wholeL o) : 0 < l.length ∧ i < rd o ((l.length : Int) - 1) := by
  have hr := rope_of hl
  have := hr.len
  unfold wholeL at h1
  split at h1
  · omega
  · unfold lastL at h1
    rw [this] at h1
    exact ⟨by omega, h1⟩
theorem letter_in {l : List S55} {o : List Int} (hl : lens l = some o) {i : Int} (h0 : 0 ≤ i) (h1 : i < wholeL o) : ∃ c, LetR l o ((l.length : Int) - 1) i c := by
  obtain ⟨hp, hi⟩ := whole_pos hl h0 h1
  have e : ((l.length - 1 : Nat) : Int) = (l.length : Int) - 1 := by omega
  have := LetR.exists (rope_of hl) _ (l.length - 1) (Nat.le_refl _) (by omega) i h0 (by rw [e]; exact hi)
  rw [e] at this
  exact this
end Go.Proofs.YtehbekgmemebjaaDoorEv
