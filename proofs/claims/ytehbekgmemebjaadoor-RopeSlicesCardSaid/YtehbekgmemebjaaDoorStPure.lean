import Derived.Test.YtehbekgmemebjaaDoorPvS
import Derived.Test.YtehbekgmemebjaaDoorEvF1
import Derived.Test.YtehbekgmemebjaaDoorStWord
namespace Go.Proofs.YtehbekgmemebjaaDoorEv
open Go Go.RowKit
set_option linter.unusedVariables false
set_option linter.unusedSimpArgs false
noncomputable section
theorem VR.back {ι ι' : Inj} (e : Ext ι ι') {v y : Value} (h : VR ι v y) : ∀ {x : Value}, VR ι' v x → VR ι v x := by
  induction h with
  | bool b => intro x h; cases h; exact .bool b
  | int k n => intro x h; cases h; exact .int k n
  | string s => intro x h; cases h; exact .string s
  | pnil => intro x h; cases h; exact .pnil
  | ptr b o i h =>
    intro x h'
    cases h' with
    | ptr _ _ i' hb =>
      rw [e b i h] at hb; cases hb
      exact .ptr b o i h
  | snil => intro x h; cases h; exact .snil
  | slice b o sp n k i a k' h hs hn hk ha =>
    intro x h'
    cases h' with
    | slice _ _ _ _ _ i' a' k2 hb hs' hn' hk' ha' =>
      rw [e b i h] at hb; cases hb
      exact .slice b o sp n k i a' k2 h hs' hn' hk' ha'
    | arg => exact absurd rfl hs
  | arg b o n A k' hn ha =>
    intro x h'
    cases h' with
    | slice _ _ _ _ _ i' a' k2 hb hs' hn' hk' ha' => exact absurd rfl hs'
    | arg _ _ _ A' k2 hn' ha' =>
      refine .arg b o n A' k2 hn' fun h0 => ?_
      obtain ⟨i, hi, _⟩ := ha h0
      obtain ⟨i', hi', hA⟩ := ha' h0
      rw [e b i hi] at hi'; cases hi'
      exact ⟨i, hi, hA⟩
  | mnil => intro x h; cases h; exact .mnil
  | map b i h =>
    intro x h'
    cases h' with
    | map _ i' hb =>
      rw [e b i h] at hb; cases hb
      exact .map b i h
  | nilFunc => intro x h; cases h; exact .nilFunc
  | nilIface => intro x h; cases h; exact .nilIface
  | func fn a b a' b' ha hb hA hB iA iB =>
    intro x h'
    cases h' with
    | func _ _ _ a2 b2 ha2 hb2 hA2 hB2 =>
      refine .func fn a b a2 b2 ha2 hb2 (fun j v v2 h1 h2 => ?_) (fun j v v2 h1 h2 => ?_)
      · have hj : j < a'.size := by rw [← ha]; exact (Array.getElem?_eq_some_iff.1 h1).1
        exact iA j v a'[j] h1 (Array.getElem?_eq_getElem hj) (hA2 j v v2 h1 h2)
      · have hj : j < b'.size := by rw [← hb]; exact (Array.getElem?_eq_some_iff.1 h1).1
        exact iB j v b'[j] h1 (Array.getElem?_eq_getElem hj) (hB2 j v v2 h1 h2)
  | iface t v v' h ih =>
    intro x h'
    cases h' with
    | iface _ _ v2 h2 => exact .iface t v v2 (ih h2)
  | agg a a' ha hA ih =>
    intro x h'
    cases h' with
    | agg _ a2 ha2 hA2 =>
      refine .agg a a2 ha2 (fun j v v2 h1 h2 => ?_)
      have hj : j < a'.size := by rw [← ha]; exact (Array.getElem?_eq_some_iff.1 h1).1
      exact ih j v a'[j] h1 (Array.getElem?_eq_getElem hj) (hA2 j v v2 h1 h2)
  | tuple a a' ha hA ih =>
    intro x h'
    cases h' with
    | tuple _ a2 ha2 hA2 =>
      refine .tuple a a2 ha2 (fun j v v2 h1 h2 => ?_)
      have hj : j < a'.size := by rw [← ha]; exact (Array.getElem?_eq_some_iff.1 h1).1
      exact ih j v a'[j] h1 (Array.getElem?_eq_getElem hj) (hA2 j v v2 h1 h2)
theorem OK.back {ι ι' : Inj} (e : Ext ι ι') {i : BI} {o : AObj} {w w' : World} (h : OK ι i o w) (h' : OK ι' i o w') : OK ι i o w' := by
  cases o with
  | cells cs u ro =>
    obtain ⟨_, _, _, _, _, _, _, _, _, h7⟩ := h
    obtain ⟨k1, k2, ccs, el, fr, k3, k4, k5, k6, k7⟩ := h'
    refine ⟨k1, k2, ccs, el, fr, k3, k4, k5, k6, fun j v hj => ?_⟩
    obtain ⟨y, _, hy⟩ := h7 j v hj
    obtain ⟨x, hx, hv⟩ := k7 j v hj
    exact ⟨x, hx, hy.back e hv⟩
  | map es k =>
    obtain ⟨_, es0, _, h3, h4⟩ := h
    obtain ⟨k1, es', k2, k3, k4⟩ := h'
    refine ⟨k1, es', k2, k3, fun j x y hx hy => ?_⟩
    obtain ⟨a, b, c, d⟩ := k4 j x y hx hy
    have hj : j < es0.size := by rw [← h3]; exact (List.getElem?_eq_some_iff.1 hx).1
    obtain ⟨_, _, _, d0⟩ := h4 j x es0[j] hx (Array.getElem?_eq_getElem hj)
    exact ⟨a, b, c, d0.back e d⟩
  | iter s p => exact h'
  | dead => trivial
theorem WR.back {GL : List Nat} {ι ι' : Inj} {H H' : Hp} {w w' : World} (h : WR GL ι H w) (h' : WR GL ι' H' w') (hn : New ι ι' H.size w) (hk : Keep H H') : WR GL ι H w' := by
  refine ⟨fun b i hb => ?_, fun b i hb => ⟨(h.dom b i hb).1, (h'.dom b i (hn.ext b i hb)).2⟩, fun b b' i i' hb hb' hne hl hl' hr => ?_, h.glob⟩
  · obtain ⟨o, h1, h2⟩ := h.obj b i hb
    obtain ⟨o', h3, h4⟩ := h'.obj b i (hn.ext b i hb)
    rw [hk.2 b (h.dom b i hb).1, h1] at h3; cases h3
    exact ⟨o, h1, h2.back hn.ext h4⟩
  · rw [← hk.2 b (h.dom b i hb).1] at hl
    rw [← hk.2 b' (h.dom b' i' hb').1] at hl'
    exact h'.inj b b' i i' (hn.ext b i hb) (hn.ext b' i' hb') hne hl hl' hr
theorem CRel.back {GL : List Nat} {ι : Inj} {H H' : Hp} {w : World} (hw : WR GL ι H w) {k : IntKind} {n : Int} {e : Ending} {w' : World} (hk : Keep H H') (h : CRel GL ι H w (.ret (.int k n) H') e w') : CRel GL ι H w (.ret (.int k n) H) e w' := by
  obtain ⟨v', ι', he, hn, hv, hww, hf, _⟩ := h
  cases hv
  exact ⟨_, ι, he, New.refl _ _ _, .int k n, hw.back hww hn hk, hf, Nat.le_refl _⟩
def letOK (H : Hp) : Bool := decide (0 < H.size) && match H.get 0 with
  | some (.cells cs _ _) => sameCs cs lettersV
  | _ => false
theorem letOK_GG {H : Hp} (h : letOK H = true) : GG H := by
  unfold letOK at h
  simp only [Bool.and_eq_true, decide_eq_true_eq] at h
  refine ⟨h.1, ?_⟩
  have h2 := h.2
  split at h2
  · rename_i cs u ro hg
    exact ⟨u, ro, by rw [hg, sameCs_eq h2]⟩
  · cases h2
def x1 : Caller := fun f args H => if letOK H = true then (if f = 46 then (match args.toList with
    | [.int .u8 c] => some (.ret (.int .i64 (index c)) H)
    | _ => none) else if f = 41 then (match args.toList with
    | [.int .i64 k, .string s] => some (.ret (.int .i64 (checkK k s)) H)
    | _ => none) else none) else none
theorem x1_ok : CallOK Tryd.prog [0] x1 := by
  have hK : CallOK Tryd.prog [0] (lim noX (compFunc Tryd.prog [0])) := lim_ok (by kernel_rfl) noX_ok CodeOK.comp
  intro f args H r h
  unfold x1 at h
  split at h
  case isFalse => cases h
  rename_i hl
  have hG := letOK_GG hl
  split at h
  · rename_i hf
    subst hf
    split at h
    · rename_i c ha
      cases h
      obtain rfl : args = #[.int .u8 c] := Array.ext' (by simpa using ha)
      exact hK _ _ _ _ (GK_index (fun _ _ _ _ => rfl) c H hG)
    · cases h
  · split at h
    · rename_i hf
      subst hf
      split at h
      · rename_i k s ha
        cases h
        obtain rfl : args = #[.int .i64 k, .string s] := Array.ext' (by simpa using ha)
        obtain ⟨H', h1, h2⟩ := GK_check (fun _ _ _ _ => rfl) k s H hG
        obtain ⟨h3, h4⟩ := hK _ _ _ _ h1
        exact ⟨h3, fun ι w args' hw hv => (h4 ι w args' hw hv).mono fun e w' h => h.back hw h2⟩
      · cases h
    · cases h
def HLet : Hp := (⟨0, .nil⟩ : Hp).new (.cells lettersV ⟨0, 0, false⟩ true)
theorem HLet_GG : GG HLet := ⟨by decide, _, _, rfl⟩
theorem cells_wr {w : World} {ccs : Array Value} {t : TypeId} {fr : Nat × Nat} (hG : w.heap[0]? = some (.cells ccs t fr)) (hs : 16 ≤ ccs.size) (hl : ∀ j v, lettersV[j]? = some v → ccs[0 + j]? = some v) : ∃ ι, AllRo ι ∧ WR [0] ι HLet w := by
  have h := (WR.empty w).view AllRo.empty (c := 0) (d := 0) (cs := lettersV) hG (by simpa [lettersV] using hs) (fun j v hj => ⟨v, hl j v hj, by
    have := List.mem_of_getElem? hj
    simp only [lettersV, List.mem_cons, List.not_mem_nil, or_false] at this
    rcases this with rfl | rfl | rfl | rfl | rfl | rfl | rfl | rfl | rfl | rfl | rfl | rfl | rfl | rfl | rfl | rfl <;> exact .int _ _⟩)
  refine ⟨_, AllRo.empty.add rfl, h.globs ?_⟩
  intro g hg
  simp only [List.mem_singleton] at hg
  subst hg
  exact ⟨_, add_same _ _ _, rfl, rfl⟩
def Glob (w : World) : Prop := ∃ t fr, w.heap[0]? = some (.cells #[.int .u8 97, .int .u8 65, .int .u8 98, .int .u8 66, .int .u8 99, .int .u8 67, .int .u8 100, .int .u8 68, .int .u8 101, .int .u8 69, .int .u8 102, .int .u8 70, .int .u8 103, .int .u8 71, .int .u8 104, .int .u8 72] t fr)
theorem glob_wr {w : World} (hG : Glob w) : ∃ ι, AllRo ι ∧ WR [0] ι HLet w := by
  obtain ⟨t, fr, hG⟩ := hG
  exact cells_wr hG (by decide) fun j v hj => by
    have : lettersV.toArray[j]? = some v := by simpa using hj
    simpa [lettersV] using this
theorem let_wr {ι : Inj} {H : Hp} {w : World} (hw : WR [0] ι H w) (hG : GG H) : ∃ ι', AllRo ι' ∧ WR [0] ι' HLet w := by
  obtain ⟨_, u, ro, hG⟩ := hG
  obtain ⟨i, h1, h2, h3⟩ := hw.glob 0 (by simp)
  obtain ⟨o, h4, h5⟩ := hw.obj 0 i h1
  rw [hG] at h4
  cases h4
  obtain ⟨_, _, ccs, e, fr, h6, _, _, h7, h8⟩ := h5
  rw [h2] at h6
  rw [h3] at h7 h8
  refine cells_wr h6 (by simpa [lettersV] using h7) fun j v hj => ?_
  obtain ⟨v', h9, h10⟩ := h8 j v hj
  rw [h9]
  have := List.mem_of_getElem? hj
  simp only [lettersV, List.mem_cons, List.not_mem_nil, or_false] at this
  rcases this with rfl | rfl | rfl | rfl | rfl | rfl | rfl | rfl | rfl | rfl | rfl | rfl | rfl | rfl | rfl | rfl <;> cases h10 <;> rfl
def isTrue : Option CR → Bool
  | some (.ret (.bool b) _) => b
  | _ => false
set_option maxRecDepth 100000 in
theorem sane_run : isTrue (evCallF x1 (compFunc Tryd.prog [0]) 200 13 #[] HLet) = true := by kernel_rfl
theorem isTrue_inv {r : Option CR} (h : isTrue r = true) : ∃ H', r = some (.ret (.bool true) H') := by
  unfold isTrue at h
  split at h
  · subst h; exact ⟨_, rfl⟩
  · cases h
theorem GG_keep (H H' : Hp) (h : GG H) (k : Kept H H') : GG H' := by
  obtain ⟨h1, u, ro, h2⟩ := h
  exact ⟨Nat.lt_of_lt_of_le h1 k.1, u, ro, (k.2 0 h1).trans h2⟩
def xo : Caller := orc 13 GG
theorem xo_none : ∀ f a H, f ≠ 13 → xo f a H = none := by
  intro f a H h
  unfold xo orc
  rw [if_neg (fun hc => h hc.1)]
def KK : Caller := lim xo (compFunc Tryd.prog [0])
theorem xo_ok : CallOK Tryd.prog [0] xo := by
  have hs := sane_run
  rw [evCallF_eq] at hs
  obtain ⟨H', hr⟩ := isTrue_inv hs
  have h := call_ok (by kernel_rfl) x1_ok CodeOK.comp 200 _ _ _ _ hr
  refine orc_ok h.1 fun ι H w hw hG => ?_
  obtain ⟨ι1, hro, hw1⟩ := let_wr hw hG
  refine (h.2 ι1 w #[] hw1 ⟨rfl, fun j v v' e => by simp at e⟩).mono ?_
  rintro e w' ⟨v', ι2, rfl, hn, hvr, hwr, hf, _⟩
  cases hvr
  exact ⟨rfl, hf.below hro⟩
theorem KK_ok : CallOK Tryd.prog [0] KK := lim_ok (by kernel_rfl) xo_ok CodeOK.comp
end
end Go.Proofs.YtehbekgmemebjaaDoorEv
namespace Go.Proofs.YtehbekgmemebjaaDoorEv
open Go
set_option linter.unusedVariables false
set_option linter.unusedSimpArgs false
noncomputable section
theorem repv_int {H : Hp} {Z : Nat → Prop} {k : IntKind} {x : Int} {v : Value} : RepV H Z (.int k) x v ↔ v = .int k x := by
  unfold RepV
  simp [Ty.isAgg, Rep]
def F13 (_ : Nat) (_ : Unit) : Option (Bool × Unit) := some (true, ())
def pc13 : PC KK GG := ⟨13, [], [(.bool, none)], F13, fun k H Z e vs hG hz ha r hr => by
  obtain rfl : vs = [] := by
    match vs, ha with
    | [], _ => rfl
  cases hr
  refine ⟨.bool true, H, Z, [.bool true], ?_, Kept.refl H, fun _ h => h, hz, fun _ h _ => h, rfl, ?_⟩
  · exact lim_iff.2 ⟨1, by simp only [evCall, xo, orc, if_pos, hG, and_self, true_and]⟩
  · exact ⟨rfl, trivial⟩⟩
end
end Go.Proofs.YtehbekgmemebjaaDoorEv
namespace Go.Proofs.YtehbekgmemebjaaDoorEv
open Go
set_option linter.unusedVariables false
set_option linter.unusedSimpArgs false
def Evn {α : Type} (g : Nat → Option α) (r : α) : Prop := ∃ n, ∀ k, n ≤ k → g k = some r
theorem Evn.now {α : Type} (r : α) : Evn (fun _ => some r) r := ⟨0, fun _ _ => rfl⟩
theorem Evn.eq {α : Type} {g : Nat → Option α} {r : α} (h : ∀ k, g k = some r) : Evn g r := ⟨0, fun k _ => h k⟩
theorem Evn.congr {α : Type} {f g : Nat → Option α} {r : α} (e : ∀ k, f k = g k) (h : Evn g r) : Evn f r := by
  obtain ⟨n, h⟩ := h
  exact ⟨n, fun k hk => (e k).trans (h k hk)⟩
theorem Evn.bind {α β : Type} {f : Nat → Option α} {g : Nat → α → Option β} {a : α} {r : β} (h : Evn f a) (h' : Evn (fun k => g k a) r) : Evn (fun k => (f k).bind (g k)) r := by
  obtain ⟨n, h⟩ := h
  obtain ⟨m, h'⟩ := h'
  refine ⟨max n m, fun k hk => ?_⟩
  simp only [h k (by omega), Option.bind_some]
  exact h' k (by omega)
theorem Evn.succ {α : Type} {f g : Nat → Option α} {r : α} (e : ∀ k, f (k + 1) = g k) (h : Evn g r) : Evn f r := by
  obtain ⟨n, h⟩ := h
  refine ⟨n + 1, fun k hk => ?_⟩
  obtain ⟨k, rfl⟩ : ∃ m, k = m + 1 := ⟨k - 1, by omega⟩
  rw [e]
  exact h k (by omega)
def EvI {α β : Type} (F : Nat → α → Option (Sum α β)) (a : α) (b : β) : Prop := ∃ n, ∀ k m, n ≤ k → n ≤ m → iter (F k) m a = some b
theorem EvI.done {α β : Type} {F : Nat → α → Option (Sum α β)} {a : α} {b : β} (h : Evn (fun k => F k a) (.inr b)) : EvI F a b := by
  obtain ⟨n, h⟩ := h
  refine ⟨n + 1, fun k m hk hm => ?_⟩
  obtain ⟨m, rfl⟩ : ∃ j, m = j + 1 := ⟨m - 1, by omega⟩
  simp only [iter, h k (by omega)]
theorem EvI.step {α β : Type} {F : Nat → α → Option (Sum α β)} {a a' : α} {b : β} (h : Evn (fun k => F k a) (.inl a')) (h' : EvI F a' b) : EvI F a b := by
  obtain ⟨n, h⟩ := h
  obtain ⟨n', h'⟩ := h'
  refine ⟨max n n' + 1, fun k m hk hm => ?_⟩
  obtain ⟨m, rfl⟩ : ∃ j, m = j + 1 := ⟨m - 1, by omega⟩
  simp only [iter, h k (by omega)]
  exact h' k m (by omega) (by omega)
theorem EvI.ev {α β : Type} {F : Nat → α → Option (Sum α β)} {a : α} {b : β} (h : EvI F a b) : Evn (fun k => iter (F k) k a) b := by
  obtain ⟨n, h⟩ := h
  exact ⟨n, fun k hk => h k k hk hk⟩
def Rnd {α β : Type} (I : α → β → Prop) (μ : α → Nat) (a : α) (b : β) : Sum α β → Prop
  | .inr b' => b' = b
  | .inl a' => μ a' < μ a ∧ I a' b
theorem EvI.inv {α β : Type} {F : Nat → α → Option (Sum α β)} (I : α → β → Prop) (μ : α → Nat) (h : ∀ a b, I a b → ∃ s, Evn (fun k => F k a) s ∧ Rnd I μ a b s) : ∀ a b, I a b → EvI F a b := by
  intro a b hI
  generalize hn : μ a = n
  induction n using Nat.strongRecOn generalizing a with
  | _ n ih =>
    obtain ⟨s, h1, h2⟩ := h a b hI
    cases s with
    | inr b' =>
      cases (show b' = b from h2)
      exact EvI.done h1
    | inl a' =>
      obtain ⟨h3, h4⟩ : μ a' < μ a ∧ I a' b := h2
      exact EvI.step h1 (ih _ (by omega) a' h4 rfl)
theorem i64w {x : Int} (h : -9223372036854775808 ≤ x) (h' : x ≤ 9223372036854775807) : IntKind.i64.wrap x = x := by simp [IntKind.wrap, IntKind.bits, IntKind.signed]; omega
end Go.Proofs.YtehbekgmemebjaaDoorEv
