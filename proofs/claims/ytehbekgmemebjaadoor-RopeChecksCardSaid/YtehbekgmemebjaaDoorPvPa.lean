import Derived.Test.YtehbekgmemebjaaDoorPvHand
import Derived.Test.YtehbekgmemebjaaDoorPvMeas
namespace Go.Proofs.YtehbekgmemebjaaDoorEv
open Go Go.Proofs.YtehbekgmemebjaaDoor.PAll Go.Proofs.YtehbekgmemebjaaDoor.PAll.H
abbrev N55 : Ty := .pair .str (.pair (.int .i64) (.pair (.int .i64) (.pair (.int .i64) .unit)))
abbrev Nd : Type := ByteArray × Int × Int × Int × Unit
def toS (x : Nd) : S55 := ⟨x.1, x.2.1, x.2.2.1, x.2.2.2.1⟩
theorem rep55 {H : Hp} {Z : Nat → Prop} {x : N55.den} {cs : List Value} (h : Rep H Z N55 x cs) : cs = enc55 (toS x) := by
  obtain ⟨c, d, rfl, rfl, c2, d2, rfl, rfl, c3, d3, rfl, rfl, c4, d4, rfl, rfl, rfl⟩ := h
  rfl
theorem reps55 {H : Hp} {Z : Nat → Prop} : ∀ {l : List N55.den} {ps : List (List Value)}, All2 (Rep H Z N55) l ps → ps.flatten = (l.map toS).flatMap enc55
  | [], [], _ => rfl
  | x :: l, p :: ps, h => by
    rw [List.flatten_cons, List.map_cons, List.flatMap_cons, reps55 h.2, rep55 h.1]
theorem reps_int {H : Hp} {Z : Nat → Prop} {k : IntKind} : ∀ l : List Int, All2 (Rep H Z (.int k)) l (l.map fun v => [Value.int k v])
  | [] => trivial
  | _ :: l => ⟨rfl, reps_int l⟩
theorem flat_int {k : IntKind} : ∀ l : List Int, (l.map fun v => [Value.int k v]).flatten = l.map (Value.int k)
  | [] => rfl
  | v :: l => by rw [List.map_cons, List.flatten_cons, flat_int l]; rfl
theorem repv_sl {H : Hp} {Z : Nat → Prop} {t : Ty} {x : List t.den} {v : Value} : RepV H Z (.sl t) x v ↔ Rep H Z (.sl t) x [v] := by
  unfold RepV
  rw [if_neg (by simp [Ty.isAgg])]
def F31 (_ : Nat) (e : List Nd × Unit) : Option (List Int × Int × Unit) := match lens (e.1.map toS) with
  | some out => some (out, (0 : Int), ())
  | none => some ([], (20 : Int), ())
def pc31 : PC KK GG := ⟨31, [.sl N55], [(.sl (.int .i64), none), (.int .i64, none)], F31, fun k H Z e vs hG hz ha r hr => by
  obtain ⟨v, rfl, hv⟩ := args1 ha
  rw [repv_sl] at hv
  obtain ⟨base, cp, hvv, hcase⟩ := hv
  simp only [List.cons.injEq, and_true] at hvv
  subst hvv
  have hA : e.1.map toS = [] ∨ ∃ b o sp bc u ro rst, base = some ⟨b, o, sp⟩ ∧ b < H.size ∧ H.get b = some (.cells bc u ro) ∧ bc.drop o = (e.1.map toS).flatMap enc55 ++ rst := by
    rcases hcase with ⟨h, _⟩ | ⟨b, o, sp, bc, u, ro, ps, rest, h1, h2, h3, h4, h5, _⟩
    · exact .inl (by rw [h]; rfl)
    · exact .inr ⟨b, o, sp, bc, u, ro, rest, h1, hz b h2, h3, by rw [h4, reps55 h5]⟩
  obtain ⟨H', hk, hc⟩ := K31 (cp := cp) hG hA
  rw [List.length_map] at hc
  have hk' : Kept H H' := hk
  unfold F31 at hr
  rcases hc with ⟨out, b, h1, hb, hlt, h2, h3, h4, _⟩ | ⟨h1, h2⟩
  · rw [h1] at hr
    cases hr
    refine ⟨_, H', fun c => Z c ∨ c = b, [_, _], h2, hk', fun _ h => .inl h, ?_, ?_, rfl, ?_, repv_int.2 rfl, trivial⟩
    · rintro c (h | rfl)
      · exact Nat.lt_of_lt_of_le (hz c h) hk'.1
      · exact hlt
    · rintro c (h | rfl) hl
      · exact h
      · exact absurd hl (by omega)
    · rw [repv_sl]
      refine ⟨_, _, by rw [← h4], .inr ⟨b, 0, none, _, _, _, out.map fun v => [Value.int .i64 v], [], rfl, .inr rfl, h3, ?_, reps_int out, .inr (.inl rfl), by decide, Nat.le_of_eq h4⟩⟩
      rw [flat_int]
      simp
  · rw [h1] at hr
    cases hr
    exact ⟨_, H', Z, [_, _], h2, hk', fun _ h => h, fun b hb => Nat.lt_of_lt_of_le (hz b hb) hk'.1, fun _ h _ => h, rfl, repv_sl.2 ⟨none, 0, rfl, .inl ⟨rfl, fun _ => rfl⟩⟩, repv_int.2 rfl, trivial⟩⟩
end Go.Proofs.YtehbekgmemebjaaDoorEv
namespace Go.Proofs.YtehbekgmemebjaaDoorEv
open Go Go.RowKit Go.Proofs.YtehbekgmemebjaaDoor.PAll.H
set_option linter.unusedVariables false
set_option linter.unusedSimpArgs false
def HLet : Hp := (⟨0, .nil⟩ : Hp).new (.cells lettersV ⟨0, 0, false⟩ true)
theorem HLet_GG : GG HLet := ⟨by decide, _, _, rfl⟩
theorem cells_wr {w : World} {ccs : Array Value} {t : TypeId} {fr : Nat × Nat} (hG : w.heap[0]? = some (.cells ccs t fr)) (hs : 16 ≤ ccs.size) (hl : ∀ j v, lettersV[j]? = some v → ccs[0 + j]? = some v) : ∃ ι, AllRo ι ∧ WR [0] ι HLet w := by
  have h := (WR.empty w).view AllRo.empty (c := 0) (d := 0) (cs := lettersV) hG (by simpa [lettersV] using hs) (fun j v hj => ⟨v, hl j v hj, by
    have := List.mem_of_getElem? hj
    simp only [lettersV, List.mem_cons, List.not_mem_nil, or_false] at this
    rcases this with rfl | rfl | rfl | rfl | rfl | rfl | rfl | rfl | rfl | rfl | rfl | rfl | rfl | rfl | rfl | rfl <;> exact .int _ _⟩)
  refine ⟨_, AllRo.empty.add rfl, h.globs ?_⟩
  intro g hg
  simp only [List.mem_singleton] at hg
  subst hg
  exact ⟨_, add_same _ _ _, rfl, rfl⟩
theorem glob_wr {w : World} (hG : Glob w) : ∃ ι, AllRo ι ∧ WR [0] ι HLet w := by
  obtain ⟨t, fr, hG⟩ := hG
  exact cells_wr hG (by decide) fun j v hj => by
    have : lettersV.toArray[j]? = some v := by simpa using hj
    simpa [lettersV] using this
theorem let_wr {ι : Inj} {H : Hp} {w : World} (hw : WR [0] ι H w) (hG : GG H) : ∃ ι', AllRo ι' ∧ WR [0] ι' HLet w := by
  obtain ⟨_, u, ro, hG⟩ := hG
  obtain ⟨i, h1, h2, h3⟩ := hw.glob 0 (by simp)
  obtain ⟨o, h4, h5⟩ := hw.obj 0 i h1
  rw [hG] at h4
  cases h4
  obtain ⟨_, _, ccs, e, fr, h6, _, _, h7, h8⟩ := h5
  rw [h2] at h6
  rw [h3] at h7 h8
  refine cells_wr h6 (by simpa [lettersV] using h7) fun j v hj => ?_
  obtain ⟨v', h9, h10⟩ := h8 j v hj
  rw [h9]
  have := List.mem_of_getElem? hj
  simp only [lettersV, List.mem_cons, List.not_mem_nil, or_false] at this
  rcases this with rfl | rfl | rfl | rfl | rfl | rfl | rfl | rfl | rfl | rfl | rfl | rfl | rfl | rfl | rfl | rfl <;> cases h10 <;> rfl
def isTrue : Option CR → Bool
  | some (.ret (.bool b) _) => b
  | _ => false
set_option maxRecDepth 100000 in
theorem sane_run : isTrue (evCall noX (compFunc Tryd.prog [0]) 60 13 #[] HLet) = true := by kernel_rfl
theorem isTrue_inv {r : Option CR} (h : isTrue r = true) : ∃ H', r = some (.ret (.bool true) H') := by
  unfold isTrue at h
  split at h
  · subst h; exact ⟨_, rfl⟩
  · cases h
theorem xo_ok : CallOK Tryd.prog [0] xo := by
  obtain ⟨H', hr⟩ := isTrue_inv sane_run
  have h := call_ok (by kernel_rfl) noX_ok CodeOK.comp 60 _ _ _ _ hr
  refine orc_ok h.1 fun ι H w hw hG => ?_
  obtain ⟨ι1, hro, hw1⟩ := let_wr hw hG
  refine (h.2 ι1 w #[] hw1 ⟨rfl, fun j v v' e => by simp at e⟩).mono ?_
  rintro e w' ⟨v', ι2, rfl, hn, hvr, hwr, hf, _⟩
  cases hvr
  exact ⟨rfl, hf.below hro⟩
theorem KK_ok : CallOK Tryd.prog [0] KK := lim_ok (by kernel_rfl) xo_ok CodeOK.comp
def F13 (_ : Nat) (_ : Unit) : Option (Bool × Unit) := some (true, ())
def pc13 : PC KK GG := ⟨13, [], [(.bool, none)], F13, fun k H Z e vs hG hz ha r hr => by
  obtain rfl : vs = [] := by
    match vs, ha with
    | [], _ => rfl
  cases hr
  refine ⟨.bool true, H, Z, [.bool true], ?_, Kept.refl H, fun _ h => h, hz, fun _ h _ => h, rfl, ?_⟩
  · exact lim_iff.2 ⟨1, by simp only [evCall, xo, orc, if_pos, hG, and_self, true_and]⟩
  · exact ⟨rfl, trivial⟩⟩
end Go.Proofs.YtehbekgmemebjaaDoorEv
namespace Go.Proofs.YtehbekgmemebjaaDoorEv
open Go Go.RowKit Go.Proofs.YtehbekgmemebjaaDoor.PAll.H Go.Proofs.YtehbekgmemebjaaDoorW.PrintWords
set_option linter.unusedVariables false
set_option linter.unusedSimpArgs false
def Evn {α : Type} (g : Nat → Option α) (r : α) : Prop := ∃ n, ∀ k, n ≤ k → g k = some r
theorem Evn.now {α : Type} (r : α) : Evn (fun _ => some r) r := ⟨0, fun _ _ => rfl⟩
theorem Evn.eq {α : Type} {g : Nat → Option α} {r : α} (h : ∀ k, g k = some r) : Evn g r := ⟨0, fun k _ => h k⟩
theorem Evn.congr {α : Type} {f g : Nat → Option α} {r : α} (e : ∀ k, f k = g k) (h : Evn g r) : Evn f r := by
  obtain ⟨n, h⟩ := h
  exact ⟨n, fun k hk => (e k).trans (h k hk)⟩
theorem Evn.bind {α β : Type} {f : Nat → Option α} {g : Nat → α → Option β} {a : α} {r : β} (h : Evn f a) (h' : Evn (fun k => g k a) r) : Evn (fun k => (f k).bind (g k)) r := by
  obtain ⟨n, h⟩ := h
  obtain ⟨m, h'⟩ := h'
  refine ⟨max n m, fun k hk => ?_⟩
  simp only [h k (by omega), Option.bind_some]
  exact h' k (by omega)
theorem Evn.succ {α : Type} {f g : Nat → Option α} {r : α} (e : ∀ k, f (k + 1) = g k) (h : Evn g r) : Evn f r := by
  obtain ⟨n, h⟩ := h
  refine ⟨n + 1, fun k hk => ?_⟩
  obtain ⟨k, rfl⟩ : ∃ m, k = m + 1 := ⟨k - 1, by omega⟩
  rw [e]
  exact h k (by omega)
def EvI {α β : Type} (F : Nat → α → Option (Sum α β)) (a : α) (b : β) : Prop := ∃ n, ∀ k m, n ≤ k → n ≤ m → iter (F k) m a = some b
theorem EvI.done {α β : Type} {F : Nat → α → Option (Sum α β)} {a : α} {b : β} (h : Evn (fun k => F k a) (.inr b)) : EvI F a b := by
  obtain ⟨n, h⟩ := h
  refine ⟨n + 1, fun k m hk hm => ?_⟩
  obtain ⟨m, rfl⟩ : ∃ j, m = j + 1 := ⟨m - 1, by omega⟩
  simp only [iter, h k (by omega)]
theorem EvI.step {α β : Type} {F : Nat → α → Option (Sum α β)} {a a' : α} {b : β} (h : Evn (fun k => F k a) (.inl a')) (h' : EvI F a' b) : EvI F a b := by
  obtain ⟨n, h⟩ := h
  obtain ⟨n', h'⟩ := h'
  refine ⟨max n n' + 1, fun k m hk hm => ?_⟩
  obtain ⟨m, rfl⟩ : ∃ j, m = j + 1 := ⟨m - 1, by omega⟩
  simp only [iter, h k (by omega)]
  exact h' k m (by omega) (by omega)
theorem EvI.ev {α β : Type} {F : Nat → α → Option (Sum α β)} {a : α} {b : β} (h : EvI F a b) : Evn (fun k => iter (F k) k a) b := by
  obtain ⟨n, h⟩ := h
  exact ⟨n, fun k hk => h k k hk hk⟩
def z55 : S55 := ⟨⟨#[]⟩, 0, 0, 0⟩
def rd_T55 (xs : List S55) (i : Int) : S55 := xs.getD i.toNat z55
inductive LetR (l : List S55) (o : List Int) : Int → Int → Int → Prop
  | leaf (n i : Int) (h0 : 0 ≤ n) (h1 : n < l.length) (hw : (rd_T55 l n).f0.toList ≠ []) (i0 : 0 ≤ i) (i1 : i < (rd_T55 l n).f0.size) : LetR l o n i (bt (rd_T55 l n).f0 i)
  | times (n i c : Int) (h0 : 0 ≤ n) (h1 : n < l.length) (hw : (rd_T55 l n).f0.toList = []) (ht : (rd_T55 l n).f3 > 0) (f0 : 0 ≤ (rd_T55 l n).f1) (f1 : (rd_T55 l n).f1 < o.length) (hz : rd o (rd_T55 l n).f1 ≠ 0)
      (h : LetR l o (rd_T55 l n).f1 (Int.tmod i (rd o (rd_T55 l n).f1)) c) : LetR l o n i c
  | left (n i c : Int) (h0 : 0 ≤ n) (h1 : n < l.length) (hw : (rd_T55 l n).f0.toList = []) (ht : ¬ (rd_T55 l n).f3 > 0) (f0 : 0 ≤ (rd_T55 l n).f1) (f1 : (rd_T55 l n).f1 < o.length) (hi : i < rd o (rd_T55 l n).f1)
      (h : LetR l o (rd_T55 l n).f1 i c) : LetR l o n i c
  | right (n i c : Int) (h0 : 0 ≤ n) (h1 : n < l.length) (hw : (rd_T55 l n).f0.toList = []) (ht : ¬ (rd_T55 l n).f3 > 0) (f0 : 0 ≤ (rd_T55 l n).f1) (f1 : (rd_T55 l n).f1 < o.length) (hi : ¬ i < rd o (rd_T55 l n).f1)
      (h : LetR l o (rd_T55 l n).f2 (wrap64 (i - rd o (rd_T55 l n).f1)) c) : LetR l o n i c
theorem lensF_spec : ∀ (rest : List S55) (done out : List Int), lensF done rest = some out → out.length = done.length + rest.length ∧ out.take done.length = done ∧ ∀ (j : Nat) (x : S55), rest[j]? = some x → ∃ v, stepL (out.take (done.length + j)) x = some v ∧ out[done.length + j]? = some v := by
  intro rest
  induction rest with
  | nil =>
    intro done out h
    simp only [lensF, Option.some.injEq] at h
    subst h
    exact ⟨by simp, by simp, fun j x hx => by simp at hx⟩
  | cons y r ih =>
    intro done out h
    simp only [lensF, Option.bind_eq_some_iff] at h
    obtain ⟨v, hv, h⟩ := h
    obtain ⟨a, b, c⟩ := ih (done ++ [v]) out h
    rw [List.length_append, List.length_singleton] at a b c
    have b2 : out.take done.length = done := by
      have := congrArg (List.take done.length) b
      rw [List.take_take, Nat.min_eq_left (by omega), List.take_left] at this
      exact this
    refine ⟨by simp only [List.length_cons]; omega, b2, fun j x hx => ?_⟩
    cases j with
    | zero =>
      simp only [List.getElem?_cons_zero, Option.some.injEq] at hx
      subst hx
      refine ⟨v, by rw [Nat.add_zero, b2]; exact hv, ?_⟩
      have := congrArg (fun l => l[done.length]?) b
      simp only [List.getElem?_take] at this
      rw [if_pos (by omega)] at this
      rw [Nat.add_zero, this]
      simp
    | succ j =>
      simp only [List.getElem?_cons_succ] at hx
      obtain ⟨v', p, q⟩ := c j x hx
      exact ⟨v', by rw [show done.length + (j + 1) = done.length + 1 + j by omega]; exact p, by rw [show done.length + (j + 1) = done.length + 1 + j by omega]; exact q⟩
theorem lensF_good : ∀ (rest : List S55) (done out : List Int), goodL done → lensF done rest = some out → goodL out := by
  intro rest
  induction rest with
  | nil =>
    intro done out hg h
    simp only [lensF, Option.some.injEq] at h
    subst h; exact hg
  | cons y r ih =>
    intro done out hg h
    simp only [lensF, Option.bind_eq_some_iff] at h
    obtain ⟨v, hv, h⟩ := h
    refine ih _ _ ?_ h
    intro z hz
    rcases List.mem_append.1 hz with hz | hz
    · exact hg z hz
    · rw [List.mem_singleton.1 hz]; exact stepL_good hg hv
structure Rope (l : List S55) (out : List Int) : Prop where
  le : l.length ≤ 4000
  len : out.length = l.length
  good : goodL out
  node : ∀ (j : Nat) (x : S55), l[j]? = some x → ∃ v, stepL (out.take j) x = some v ∧ out[j]? = some v
theorem rope_of {l : List S55} {out : List Int} (h : lens l = some out) : Rope l out := by
  unfold lens at h
  split at h
  · rename_i hl
    obtain ⟨a, _, c⟩ := lensF_spec l [] out h
    exact ⟨hl, by simpa using a, lensF_good l [] out (fun v hv => by cases hv) h, fun j x hx => by simpa using c j x hx⟩
  · cases h
theorem rd_take {l : List Int} {j : Nat} {i : Int} (h0 : 0 ≤ i) (h1 : i < (l.take j).length) : rd (l.take j) i = rd l i := by
  unfold rd
  have : i.toNat < (l.take j).length := by omega
  rw [List.getD_eq_getElem?_getD, List.getD_eq_getElem?_getD, List.getElem?_take, if_pos (by rw [List.length_take] at this; omega)]
inductive NodeIs (out : List Int) (j : Nat) (x : S55) (v : Int) : Prop
  | leaf (h : x.f0.size ≠ 0) (hv : v = x.f0.size)
  | times (h : x.f0.size = 0) (ht : 1 ≤ x.f3) (h0 : 0 ≤ x.f1) (h1 : x.f1 < j) (h2 : x.f2 = 0) (hv : v = x.f3 * rd out x.f1)
  | pair (h : x.f0.size = 0) (ht : x.f3 = 0) (h0 : 0 ≤ x.f1) (h1 : x.f1 < j) (g0 : 0 ≤ x.f2) (g1 : x.f2 < j) (hv : v = rd out x.f1 + rd out x.f2)
theorem Rope.is {l : List S55} {out : List Int} (h : Rope l out) {j : Nat} {x : S55} (hx : l[j]? = some x) : ∃ v, out[j]? = some v ∧ 1 ≤ v ∧ v ≤ 1152921504606846976 ∧ NodeIs out j x v := by
  obtain ⟨v, hs, hv⟩ := h.node j x hx
  have hg := h.good v (List.mem_of_getElem? hv)
  refine ⟨v, hv, hg.1, hg.2, ?_⟩
  have hlen : (out.take j).length = j := by
    have := (List.getElem?_eq_some_iff.1 hv).1
    rw [List.length_take]; omega
  unfold stepL at hs
  split at hs
  · rename_i h0
    split at hs
    · rename_i h3
      split at hs
      · rename_i hc
        obtain ⟨a, b, c, d, e⟩ := hc
        cases hs
        refine .pair h0 h3 a (by omega) c (by omega) ?_
        rw [rd_take a b, rd_take c d]
      · cases hs
    · split at hs
      · rename_i hc
        obtain ⟨a, b, c, d, e⟩ := hc
        cases hs
        refine .times h0 a b (by omega) d ?_
        rw [rd_take b c]
      · cases hs
  · rename_i h0
    split at hs
    · cases hs; exact .leaf h0 rfl
    · cases hs
def lastL (o : List Int) : Int := rd o ((o.length : Int) - 1)
def wholeL (o : List Int) : Int := if o.length = 0 then 0 else lastL o
end Go.Proofs.YtehbekgmemebjaaDoorEv
