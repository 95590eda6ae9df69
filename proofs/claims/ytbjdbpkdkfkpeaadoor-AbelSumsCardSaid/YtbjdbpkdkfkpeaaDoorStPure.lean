import Derived.Test.YtbjdbpkdkfkpeaaDoorStHand
namespace Go.Proofs.YtbjdbpkdkfkpeaaDoorEv
open Go
set_option linter.unusedVariables false
set_option linter.unusedSimpArgs false
def Evn {α : Type} (g : Nat → Option α) (r : α) : Prop := ∃ n, ∀ k, n ≤ k → g k = some r
theorem Evn.now {α : Type} (r : α) : Evn (fun _ => some r) r := ⟨0, fun _ _ => rfl⟩
theorem Evn.eq {α : Type} {g : Nat → Option α} {r : α} (h : ∀ k, g k = some r) : Evn g r := ⟨0, fun k _ => h k⟩
theorem Evn.bind {α β : Type} {f : Nat → Option α} {g : Nat → α → Option β} {a : α} {r : β} (h : Evn f a) (h' : Evn (fun k => g k a) r) : Evn (fun k => (f k).bind (g k)) r := by
  obtain ⟨n, h⟩ := h
  obtain ⟨m, h'⟩ := h'
  refine ⟨max n m, fun k hk => ?_⟩
  simp only [h k (by omega), Option.bind_some]
  exact h' k (by omega)
theorem Evn.succ {α : Type} {f g : Nat → Option α} {r : α} (e : ∀ k, f (k + 1) = g k) (h : Evn g r) : Evn f r := by
  obtain ⟨n, h⟩ := h
  refine ⟨n + 1, fun k hk => ?_⟩
  obtain ⟨k, rfl⟩ : ∃ m, k = m + 1 := ⟨k - 1, by omega⟩
  rw [e]
  exact h k (by omega)
def EvI {α β : Type} (F : Nat → α → Option (Sum α β)) (a : α) (b : β) : Prop := ∃ n, ∀ k m, n ≤ k → n ≤ m → iter (F k) m a = some b
theorem EvI.done {α β : Type} {F : Nat → α → Option (Sum α β)} {a : α} {b : β} (h : Evn (fun k => F k a) (.inr b)) : EvI F a b := by
  obtain ⟨n, h⟩ := h
  refine ⟨n + 1, fun k m hk hm => ?_⟩
  obtain ⟨m, rfl⟩ : ∃ j, m = j + 1 := ⟨m - 1, by omega⟩
  simp only [iter, h k (by omega)]
theorem EvI.step {α β : Type} {F : Nat → α → Option (Sum α β)} {a a' : α} {b : β} (h : Evn (fun k => F k a) (.inl a')) (h' : EvI F a' b) : EvI F a b := by
  obtain ⟨n, h⟩ := h
  obtain ⟨n', h'⟩ := h'
  refine ⟨max n n' + 1, fun k m hk hm => ?_⟩
  obtain ⟨m, rfl⟩ : ∃ j, m = j + 1 := ⟨m - 1, by omega⟩
  simp only [iter, h k (by omega)]
  exact h' k m (by omega) (by omega)
theorem EvI.ev {α β : Type} {F : Nat → α → Option (Sum α β)} {a : α} {b : β} (h : EvI F a b) : Evn (fun k => iter (F k) k a) b := by
  obtain ⟨n, h⟩ := h
  exact ⟨n, fun k hk => h k k hk hk⟩
def Rnd {α β : Type} (I : α → β → Prop) (μ : α → Nat) (a : α) (b : β) : Sum α β → Prop
  | .inr b' => b' = b
  | .inl a' => μ a' < μ a ∧ I a' b
theorem EvI.inv {α β : Type} {F : Nat → α → Option (Sum α β)} (I : α → β → Prop) (μ : α → Nat) (h : ∀ a b, I a b → ∃ s, Evn (fun k => F k a) s ∧ Rnd I μ a b s) : ∀ a b, I a b → EvI F a b := by
  intro a b hI
  generalize hn : μ a = n
  induction n using Nat.strongRecOn generalizing a with
  | _ n ih =>
    obtain ⟨s, h1, h2⟩ := h a b hI
    cases s with
    | inr b' =>
      cases (show b' = b from h2)
      exact EvI.done h1
    | inl a' =>
      obtain ⟨h3, h4⟩ : μ a' < μ a ∧ I a' b := h2
      exact EvI.step h1 (ih _ (by omega) a' h4 rfl)
theorem EvI.count {α β : Type} {F : Nat → α → Option (Sum α β)} (st : Nat → α) (n : Nat) {a : α} {b : β} (ha : a = st 0) (h : ∀ j, j < n → Evn (fun k => F k (st j)) (.inl (st (j + 1)))) (hd : Evn (fun k => F k (st n)) (.inr b)) : EvI F a b := by
  subst ha
  have key : ∀ m j, j + m = n → EvI F (st j) b := by
    intro m
    induction m with
    | zero => intro j hj; obtain rfl : j = n := by omega
              exact EvI.done hd
    | succ m ih => intro j hj; exact EvI.step (h j (by omega)) (ih (j + 1) (by omega))
  exact key n 0 (by omega)
theorem i64w {x : Int} (h : -9223372036854775808 ≤ x) (h' : x ≤ 9223372036854775807) : IntKind.i64.wrap x = x := by simp [IntKind.wrap, IntKind.bits, IntKind.signed]; omega
theorem atB_at {s : ByteArray} {j : Nat} {c : Int} (h : (bytesB s)[j]? = some c) : atB s (j : Int) = some c := by
  have hj : j < s.size := by rw [← bytesB_len]; exact (List.getElem?_eq_some_iff.1 h).1
  rw [bytesB_at s j hj] at h
  unfold atB
  rw [if_pos (by omega), Int.toNat_natCast]
  have h2 : s[j]? = some (s[j]'hj) := by simp [hj]
  rw [h2]
  exact h
theorem atL_at {α : Type} {l : List α} {j : Nat} {x : α} (h : l[j]? = some x) : atL l (j : Int) = some x := by
  unfold atL
  rw [if_pos (by omega), Int.toNat_natCast, h]
theorem bytesB_app (u v : ByteArray) : bytesB (u ++ v) = bytesB u ++ bytesB v := by
  simp [bytesB, ByteArray.data_append]
theorem bytesB_range {s : ByteArray} {c : Int} (h : c ∈ bytesB s) : 0 ≤ c ∧ c < 256 := by
  unfold bytesB at h
  obtain ⟨b, _, rfl⟩ := List.mem_map.1 h
  have := b.toNat_lt
  omega
end Go.Proofs.YtbjdbpkdkfkpeaaDoorEv
