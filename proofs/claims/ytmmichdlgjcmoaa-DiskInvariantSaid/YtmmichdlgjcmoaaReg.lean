import Derived.Deep.QuietTactic
import Derived.BigQuiet
import Derived.Deep.RegionHeld3
namespace Go.Proofs.YtmmichdlgjcmoaaReg
open Go
section
variable {P : Program} {ops ops' : Array Oper} {md : Region.Mode} {C : World → Prop} {Q : Exit → Act → World → Prop} {L : Nat} {o : Oper}
def Closed (md : Region.Mode) (ops : Array Oper) (listed : Array Bool) : Prop := ∀ (j : Nat) (oj : Oper), listed.getD j false = true → ops[j]? = some oj → ∀ e ∈ oj.after, Region.binds md e = true → listed.getD e.on false = true
def lastB (md : Region.Mode) (ops : Array Oper) : Bool :=
  (List.range ops.size).all (fun i => ((ops[i]?).map (fun oi => oi.after.all fun e => decide (e.on < i))).getD false) &&
  (List.range (ops.size - 1)).all (fun j => (List.range ops.size).any (fun i => decide (j < i) && ((ops[i]?).map (fun oi => oi.after.any fun e => Region.binds md e && e.on == j)).getD false))
theorem lastB_back (h : lastB md ops = true) {i : Nat} {oi : Oper} (hi : ops[i]? = some oi) : ∀ e ∈ oi.after, e.on < i := by
  simp only [lastB, Bool.and_eq_true, List.all_eq_true, List.mem_range] at h
  have := h.1 i (Array.getElem?_eq_some_iff.1 hi).1
  simp only [hi, Option.map_some, Option.getD_some, Array.all_eq_true_iff_forall_mem, decide_eq_true_eq] at this
  exact this
theorem lastB_cover (h : lastB md ops = true) {j : Nat} (hj : j < ops.size - 1) : ∃ i oi e, j < i ∧ ops[i]? = some oi ∧ e ∈ oi.after ∧ Region.binds md e = true ∧ e.on = j := by
  simp only [lastB, Bool.and_eq_true, List.all_eq_true, List.mem_range] at h
  have := h.2 j hj
  simp only [List.any_eq_true, List.mem_range, Bool.and_eq_true, decide_eq_true_eq] at this
  obtain ⟨i, hi, hlt, h2⟩ := this
  obtain ⟨oi, ho⟩ : ∃ oi, ops[i]? = some oi := ⟨ops[i], Array.getElem?_eq_getElem hi⟩
  simp only [ho, Option.map_some, Option.getD_some, Array.any_eq_true', Bool.and_eq_true, beq_iff_eq] at h2
  obtain ⟨e, he, hb, hon⟩ := h2
  exact ⟨i, oi, e, hlt, ho, he, hb, hon⟩
theorem getD_tf {l : Array Bool} {j : Nat} (h : l.getD j false = true) : l.getD j true = true := by
  rcases Nat.lt_or_ge j l.size with h' | h'
  · simp [h'] at h ⊢; exact h
  · simp [Array.getElem?_eq_none h'] at h
theorem late (hB : lastB md ops = true) (hL : L + 1 = ops.size) {listed : Array Bool} (hsz : listed.size = ops.size) (hc : Closed md ops listed) (hr : L ∈ Region.ready md ops listed) : ∀ j, j < L → listed.getD j false = true := by
  obtain ⟨_, oL, hoL, hdep⟩ := mem_ready.1 hr
  suffices h : ∀ d j, j < L → L - j ≤ d → listed.getD j false = true from fun j hj => h (L - j) j hj (Nat.le_refl _)
  intro d
  induction d with
  | zero => intro j hj hd; omega
  | succ d ih =>
    intro j hj hd
    obtain ⟨i, oi, e, hlt, hoi, he, hb, hon⟩ := lastB_cover hB (j := j) (by omega)
    have hi : i < ops.size := (Array.getElem?_eq_some_iff.1 hoi).1
    rcases Nat.lt_or_ge i L with h1 | h1
    · have := ih i h1 (by omega)
      rw [← hon]; exact hc i oi this hoi e he hb
    · obtain rfl : i = L := by omega
      rw [hoL] at hoi
      cases hoi
      rw [← hon]; exact hdep e he hb
theorem ready_some (hB : lastB md ops = true) (hL : L < ops.size) {listed : Array Bool} (hsz : listed.size = ops.size) (hu : listed.getD L true = false) : Region.ready md ops listed ≠ [] := by
  suffices h : ∀ n, n < ops.size → listed.getD n true = false → Region.ready md ops listed ≠ [] from h L hL hu
  intro n
  induction n using Nat.strongRecOn with
  | _ n ih =>
    intro hn hun
    obtain ⟨oi, ho⟩ : ∃ oi, ops[n]? = some oi := ⟨ops[n], Array.getElem?_eq_getElem hn⟩
    by_cases hall : ∀ e ∈ oi.after, Region.binds md e = true → listed.getD e.on false = true
    · intro h0
      have : n ∈ Region.ready md ops listed := mem_ready.2 ⟨hun, oi, ho, hall⟩
      rw [h0] at this; cases this
    · simp only [Classical.not_forall] at hall
      obtain ⟨e, he, hb, hne⟩ := hall
      have hlt := lastB_back hB ho e he
      refine ih e.on hlt (by omega) ?_
      have h' : e.on < listed.size := by omega
      simp [h'] at hne ⊢; exact hne
theorem closed_set {i : Nat} {listed : Array Bool} (hc : Closed md ops listed) (hr : i ∈ Region.ready md ops listed) : Closed md ops (listed.setIfInBounds i true) := by
  intro j oj hj hoj e he hb
  obtain ⟨_, oi, hoi, hdep⟩ := mem_ready.1 hr
  by_cases hij : i = j
  · subst hij
    rw [hoi] at hoj; cases hoj
    exact getD_set_true (hdep e he hb)
  · rw [getD_set_ne false hij] at hj
    exact getD_set_true (hc j oj hj hoj e he hb)
theorem wpQuiet_mono {K K' : Act → Prop} (hk : ∀ a, K a → K' a) : ∀ (l : List Oper) (a : Act), wpQuiet P ops C K l a → wpQuiet P ops C K' l a
  | [], a, h => hk a h
  | o :: rest, a, h => by
    unfold wpQuiet at h ⊢
    split
    · rename_i hw
      rw [if_pos hw] at h
      exact Oper.quiet_mono (fun a h => wpQuiet_mono hk rest a h) h
    · rename_i hw
      rw [if_neg hw] at h
      exact wpQuiet_mono hk rest _ h
theorem last_any (hB : lastB md ops = true) (hL : L + 1 = ops.size) (hsz' : ops'.size = ops.size) (hsame : ∀ i, i ≠ L → ops'[i]? = ops[i]?) (hoL : ops[L]? = some o)
    (hoL' : ops'[L]? = some { o with op := .move (.const undef), dst := none, guard := none }) (hy : ∀ (i : Nat) (oi : Oper) (tmps : Array Value), i ≠ L → ops[i]? = some oi → Region.wanted oi (yielded ops' tmps) = Region.wanted oi (yielded ops tmps)) :
    ∀ (fuel : Nat) (listed : Array Bool) (a : Act) (w : World), C w → listed.size = ops.size → Closed md ops listed → listed.getD L true = false →
      wpAnyQ P md ops' C (fun a => ∀ w, C w → wpOp P ops Q L (Q .normal) a w) fuel listed a → wpAny P md ops Q fuel listed a w := by
  have hready : ∀ listed, Region.ready md ops' listed = Region.ready md ops listed := fun listed => by
    unfold Region.ready
    rw [hsz']
    refine List.filter_congr (fun i hi => ?_)
    by_cases h : i = L
    · subst h; rw [hoL, hoL']; rfl
    · rw [hsame i h]
  intro fuel
  induction fuel with
  | zero =>
    intro listed a w hw hs hc hu h
    have h1 : Region.ready md ops' listed = [] := h.1
    rw [hready] at h1
    exact absurd h1 (ready_some hB (by omega) hs hu)
  | succ fuel ih =>
    intro listed a w hw hs hc hu h
    refine ⟨fun h0 => absurd h0 (ready_some hB (by omega) hs hu), fun i hi => ?_⟩
    have h2 := h.2 i (by rw [hready]; exact hi)
    by_cases hiL : i = L
    · subst hiL
      have hlate := late hB hL hs hc hi
      have hnil : Region.ready md ops (listed.setIfInBounds i true) = [] := by
        rw [List.eq_nil_iff_forall_not_mem]
        intro j hj
        obtain ⟨h0, oj, hoj, _⟩ := mem_ready.1 hj
        have hjn := (Array.getElem?_eq_some_iff.1 hoj).1
        rcases Nat.lt_or_ge j i with h1 | h1
        · have := getD_tf (getD_set_true (i := i) (hlate j h1))
          rw [h0] at this; cases this
        · obtain rfl : j = i := by omega
          have : (listed.setIfInBounds j true).getD j true = true := by simp [hs, hjn]
          rw [h0] at this; cases this
      have h3 : ∀ w, C w → wpOp P ops Q i (Q .normal) a w := by
        unfold qOp at h2
        simp only [hoL', Region.wanted, if_true] at h2
        obtain ⟨v, _, h4⟩ := h2
        have h5 : wpAnyQ P md ops' C (fun a => ∀ w, C w → wpOp P ops Q i (Q .normal) a w) fuel (listed.setIfInBounds i true) a := h4
        cases fuel with
        | zero => exact h5.2
        | succ n => exact h5.1 (by rw [hready]; exact hnil)
      have hK : ∀ a w, Q .normal a w → wpAny P md ops Q fuel (listed.setIfInBounds i true) a w := fun a w hq => by
        cases fuel with
        | zero => exact ⟨hnil, hq⟩
        | succ n => exact ⟨fun _ => hq, fun j hj => by rw [hnil] at hj; cases hj⟩
      have h6 := h3 w hw
      unfold wpOp at h6 ⊢
      rw [hoL] at h6 ⊢
      simp only at h6 ⊢
      split
      · rename_i hwant
        rw [if_pos hwant] at h6
        rcases h6 with h6 | h6
        · refine .inl ?_
          unfold Oper.wp at h6 ⊢
          generalize (execOp a.eval o).run P w = r at h6 ⊢
          cases r with
          | ok n w' =>
            cases n with
            | value v => exact hK _ _ h6
            | skip => exact hK _ _ h6
            | defer d => exact hK _ _ h6
            | enter f args =>
              refine Calls.mono h6 (fun e w'' he => ?_)
              cases e with
              | returned v => exact hK _ _ he
              | panicked chain => exact he
              | outgrown => exact he
            | row row args => exact Rows.mono h6 (fun v w'' hv => hK _ _ hv)
            | _ => exact h6
          | halt hh w' => cases hh <;> exact h6
        · exact .inr h6
      · rename_i hwant
        rw [if_neg hwant] at h6
        exact hK _ _ h6
    · have hoi' := hsame i hiL
      have hmem := mem_ready.1 hi
      obtain ⟨_, oi, hoi, _⟩ := hmem
      have hu' : (listed.setIfInBounds i true).getD L true = false := by rw [getD_set_ne true hiL]; exact hu
      have hs' : (listed.setIfInBounds i true).size = ops.size := by simpa using hs
      have hc' := closed_set hc hi
      unfold wpOp
      unfold qOp at h2
      rw [hoi', hoi] at h2
      rw [hoi]
      simp only at h2 ⊢
      rw [hy i oi a.tmps hiL hoi] at h2
      split
      · rename_i hwant
        rw [if_pos hwant] at h2
        exact .inl (Oper.wp_of_quiet hw (fun a' w' hw' hk => ih _ a' w' hw' hs' hc' hu' hk) h2)
      · rename_i hwant
        rw [if_neg hwant] at h2
        exact ih _ _ w hw hs' hc' hu' h2
def lateQ (P : Program) (ops : Array Oper) (Q : Exit → Act → World → Prop) (L : Nat) : Exit → Act → World → Prop
  | .normal, a, w => wpOp P ops Q L (Q .normal) a w
  | e, a, w => Q e a w
theorem split_any (hB : lastB md ops = true) (hL : L + 1 = ops.size) (hsz' : ops'.size = ops.size) (hsame : ∀ i, i ≠ L → ops'[i]? = ops[i]?) (hoL : ops[L]? = some o)
    (hoL' : ops'[L]? = some { o with op := .move (.const undef), dst := none, guard := none }) (hy : ∀ (i : Nat) (oi : Oper) (tmps : Array Value), i ≠ L → ops[i]? = some oi → Region.wanted oi (yielded ops' tmps) = Region.wanted oi (yielded ops tmps)) :
    ∀ (fuel : Nat) (listed : Array Bool) (a : Act) (w : World), listed.size = ops.size → Closed md ops listed → listed.getD L true = false →
      wpAny P md ops' (lateQ P ops Q L) fuel listed a w → wpAny P md ops Q fuel listed a w := by
  have hready : ∀ listed, Region.ready md ops' listed = Region.ready md ops listed := fun listed => by
    unfold Region.ready
    rw [hsz']
    refine List.filter_congr (fun i hi => ?_)
    by_cases h : i = L
    · subst h; rw [hoL, hoL']; rfl
    · rw [hsame i h]
  intro fuel
  induction fuel with
  | zero =>
    intro listed a w hs hc hu h
    have h1 : Region.ready md ops' listed = [] := h.1
    rw [hready] at h1
    exact absurd h1 (ready_some hB (by omega) hs hu)
  | succ fuel ih =>
    intro listed a w hs hc hu h
    refine ⟨fun h0 => absurd h0 (ready_some hB (by omega) hs hu), fun i hi => ?_⟩
    have h2 := h.2 i (by rw [hready]; exact hi)
    by_cases hiL : i = L
    · subst hiL
      have hlate := late hB hL hs hc hi
      have hnil : Region.ready md ops (listed.setIfInBounds i true) = [] := by
        rw [List.eq_nil_iff_forall_not_mem]
        intro j hj
        obtain ⟨h0, oj, hoj, _⟩ := mem_ready.1 hj
        have hjn := (Array.getElem?_eq_some_iff.1 hoj).1
        rcases Nat.lt_or_ge j i with h1 | h1
        · have := getD_tf (getD_set_true (i := i) (hlate j h1))
          rw [h0] at this; cases this
        · obtain rfl : j = i := by omega
          have : (listed.setIfInBounds j true).getD j true = true := by simp [hs, hjn]
          rw [h0] at this; cases this
      have h6 : wpOp P ops Q i (Q .normal) a w := by
        unfold wpOp at h2
        rw [hoL'] at h2
        simp only [Region.wanted, if_true] at h2
        have h5 : wpAny P md ops' (lateQ P ops Q i) fuel (listed.setIfInBounds i true) a w := by
          rcases h2 with h2 | h2
          · exact h2
          · exact absurd h2.1 (fun h => by have h' : noRoomEvent ∈ (#[] : Array Event) := h.1; simp at h')
        cases fuel with
        | zero => exact h5.2
        | succ n => exact h5.1 (by rw [hready]; exact hnil)
      have hK : ∀ a w, Q .normal a w → wpAny P md ops Q fuel (listed.setIfInBounds i true) a w := fun a w hq => by
        cases fuel with
        | zero => exact ⟨hnil, hq⟩
        | succ n => exact ⟨fun _ => hq, fun j hj => by rw [hnil] at hj; cases hj⟩
      unfold wpOp at h6 ⊢
      rw [hoL] at h6 ⊢
      simp only at h6 ⊢
      split
      · rename_i hwant
        rw [if_pos hwant] at h6
        rcases h6 with h6 | h6
        · refine .inl ?_
          unfold Oper.wp at h6 ⊢
          generalize (execOp a.eval o).run P w = r at h6 ⊢
          cases r with
          | ok n w' =>
            cases n with
            | value v => exact hK _ _ h6
            | skip => exact hK _ _ h6
            | defer d => exact hK _ _ h6
            | enter f args =>
              refine Calls.mono h6 (fun e w'' he => ?_)
              cases e with
              | returned v => exact hK _ _ he
              | panicked chain => exact he
              | outgrown => exact he
            | row row args => exact Rows.mono h6 (fun v w'' hv => hK _ _ hv)
            | _ => exact h6
          | halt hh w' => cases hh <;> exact h6
        · exact .inr h6
      · rename_i hwant
        rw [if_neg hwant] at h6
        exact hK _ _ h6
    · have hoi' := hsame i hiL
      have hmem := mem_ready.1 hi
      obtain ⟨_, oi, hoi, _⟩ := hmem
      have hu' : (listed.setIfInBounds i true).getD L true = false := by rw [getD_set_ne true hiL]; exact hu
      have hs' : (listed.setIfInBounds i true).size = ops.size := by simpa using hs
      have hc' := closed_set hc hi
      have hK : ∀ a w, wpAny P md ops' (lateQ P ops Q L) fuel (listed.setIfInBounds i true) a w → wpAny P md ops Q fuel (listed.setIfInBounds i true) a w := fun a w h => ih _ a w hs' hc' hu' h
      unfold wpOp at h2 ⊢
      rw [hoi', hoi] at h2
      rw [hoi]
      simp only at h2 ⊢
      rw [hy i oi a.tmps hiL hoi] at h2
      split
      · rename_i hwant
        rw [if_pos hwant] at h2
        rcases h2 with h2 | h2
        · refine .inl ?_
          unfold Oper.wp at h2 ⊢
          generalize (execOp a.eval oi).run P w = r at h2 ⊢
          cases r with
          | ok n w' =>
            cases n with
            | value v => exact hK _ _ h2
            | skip => exact hK _ _ h2
            | defer d => exact hK _ _ h2
            | enter f args =>
              refine Calls.mono h2 (fun e w'' he => ?_)
              cases e with
              | returned v => exact hK _ _ he
              | panicked chain => exact he
              | outgrown => exact he
            | row row args => exact Rows.mono h2 (fun v w'' hv => hK _ _ hv)
            | _ => exact h2
          | halt hh w' => cases hh <;> exact h2
        · exact .inr h2
      · rename_i hwant
        rw [if_neg hwant] at h2
        exact hK _ _ h2
def hush (o : Oper) : Oper := { o with op := .move (.const undef), dst := none, guard := none }
def hushLast : List Oper → List Oper
  | [] => []
  | [o] => [hush o]
  | o :: p :: r => o :: hushLast (p :: r)
theorem hushLast_length : ∀ l : List Oper, (hushLast l).length = l.length
  | [] => rfl
  | [_] => rfl
  | _ :: p :: r => by simp [hushLast, hushLast_length (p :: r)]
theorem hushLast_at : ∀ (l : List Oper) (i : Nat), i + 1 ≠ l.length → (hushLast l)[i]? = l[i]?
  | [], _, _ => rfl
  | [o], i, h => by cases i with | zero => simp at h | succ i => rfl
  | o :: p :: r, i, h => by
    cases i with
    | zero => rfl
    | succ i =>
      simp only [hushLast, List.getElem?_cons_succ]
      exact hushLast_at (p :: r) i (by simp only [List.length_cons] at h ⊢; omega)
theorem hushLast_last : ∀ (l : List Oper) (o : Oper), l.getLast? = some o → (hushLast l)[l.length - 1]? = some (hush o) ∧ l[l.length - 1]? = some o
  | [], _, h => by simp at h
  | [p], o, h => by simp at h; subst h; exact ⟨rfl, rfl⟩
  | p :: q :: r, o, h => by
    have := hushLast_last (q :: r) o (by simpa [List.getLast?_cons_cons] using h)
    simpa [hushLast] using this
def guardsB (l : List Oper) : Bool := l.all fun o => match o.guard with | none => true | some (j, _) => decide (j + 1 ≠ l.length)
theorem wp_region_last_lit {id : Nat} {a : Act} {w : World} {l : List Oper} (o : Oper) (hm : P.follows .mixedOrders = true) (hB : (Region.lexB .any (hushLast l).toArray && lastB .any l.toArray && guardsB l) = true) (hl : l.getLast? = some o)
    (h : wpQuiet P (hushLast l).toArray (fun w' => ∃ n, w' = w.drewN n) (fun a' => ∀ w', (∃ n, w' = w.drewN n) → Region.wanted o (yielded l.toArray a'.tmps) = true ∧ o.wp P a' w' (Q .normal) Q) (hushLast l) a) : (Code.region id l.toArray true).wp P Q a w := by
  simp only [Bool.and_eq_true] at hB
  obtain ⟨⟨hB1, hB2⟩, hB3⟩ := hB
  obtain ⟨h1, h2⟩ := hushLast_last l o hl
  have hne : l ≠ [] := by intro e; subst e; simp at hl
  have hlen : 0 < l.length := List.length_pos_iff.2 hne
  simp only [Region.lexB, Bool.and_eq_true] at hB1
  refine wp_region_any hm ?_
  have hq := wpAnyQ_lex (P := P) (C := fun w' => ∃ n, w' = w.drewN n) (md := .any) (ops := (hushLast l).toArray) (Q := fun a' => ∀ w', (∃ n, w' = w.drewN n) → wpOp P l.toArray Q (l.length - 1) (Q .normal) a' w') hB1.1 (hushLast l) 0 (Array.replicate (hushLast l).length false) a (by simp) (by simpa using hB1.2) ?_
  · have := last_any (P := P) (ops := l.toArray) (ops' := (hushLast l).toArray) (md := .any) (C := fun w' => ∃ n, w' = w.drewN n) (Q := Q) (L := l.length - 1) (o := o) hB2 (by simp; omega) (by simp [hushLast_length]) (fun i hi => by simpa using hushLast_at l i (by omega)) (by simpa using h2) (by rw [List.getElem?_toArray]; exact h1)
      (fun i oi tmps hi hoi => by
        have hmem : oi ∈ l := List.mem_of_getElem? (by simpa using hoi)
        simp only [guardsB, List.all_eq_true] at hB3
        have := hB3 oi hmem
        unfold Region.wanted
        split
        · rfl
        · rename_i j want hg
          simp only [hg, decide_eq_true_eq] at this
          unfold yielded
          simp only [List.getElem?_toArray, hushLast_at l j this])
      l.length (Array.replicate l.length false) a { w with drawn := w.drawn + 1 } ⟨1, rfl⟩ (by simp) (fun j oj hj => by
        by_cases hjl : j < l.length <;> simp [hjl] at hj) (by
        have hlt : l.length - 1 < l.length := by omega
        simp [hlt])
    rw [hushLast_length] at hq
    simpa using this hq
  · refine wpQuiet_mono (fun a' ha' w' hw' => ?_) _ _ h
    obtain ⟨h3, h4⟩ := ha' w' hw'
    unfold wpOp
    simp only [List.getElem?_toArray, h2]
    rw [if_pos h3]
    exact .inl h4
def lastOf : List Oper → Option Oper
  | [] => none
  | [o] => some o
  | _ :: p :: r => lastOf (p :: r)
theorem lastOf_eq : ∀ l : List Oper, lastOf l = l.getLast?
  | [] => rfl
  | [_] => rfl
  | _ :: p :: r => by rw [lastOf, lastOf_eq (p :: r), List.getLast?_cons_cons]
theorem wp_region_last {id : Nat} {a : Act} {w : World} {l : List Oper} (o : Oper) (hm : P.follows .mixedOrders = true) (hB : (Region.lexB .any (hushLast l).toArray && lastB .any l.toArray && guardsB l) = true) (hl : lastOf l = some o)
    (h : wpQuiet P (hushLast l).toArray (fun w' => ∃ n, w' = w.drewN n) (fun a' => ∀ w', (∃ n, w' = w.drewN n) → Region.wanted o (yielded l.toArray a'.tmps) = true ∧ o.wp P a' w' (Q .normal) Q) (hushLast l) a) : (Code.region id l.toArray true).wp P Q a w :=
  wp_region_last_lit o hm hB (by rw [← lastOf_eq]; exact hl) h
theorem wp_region_held_last {S : World → Prop} {id : Nat} {a : Act} {w : World} {l : List Oper} (o : Oper) (hm : P.follows .mixedOrders = true) (hB : (lastB .any l.toArray && guardsB l) = true) (hl : lastOf l = some o)
    (hS : S w.drew) (h : S w.drew → wpAnyH P .any (hushLast l).toArray (lateQ P l.toArray Q (l.length - 1)) S l.length (Array.replicate l.length false) a w.drew) : (Code.region id l.toArray true).wp P Q a w := by
  simp only [Bool.and_eq_true] at hB
  obtain ⟨hB2, hB3⟩ := hB
  rw [lastOf_eq] at hl
  obtain ⟨h1, h2⟩ := hushLast_last l o hl
  have hne : l ≠ [] := by intro e; subst e; simp at hl
  have hlen : 0 < l.length := List.length_pos_iff.2 hne
  refine wp_region_any hm ?_
  refine split_any (P := P) (ops := l.toArray) (ops' := (hushLast l).toArray) (md := .any) (Q := Q) (L := l.length - 1) (o := o) hB2 (by simp; omega) (by simp [hushLast_length]) (fun i hi => by simpa using hushLast_at l i (by omega)) (by simpa using h2) (by simpa [hush] using h1)
    (fun i oi tmps hi hoi => by
      have hmem : oi ∈ l := List.mem_of_getElem? (by simpa using hoi)
      simp only [guardsB, List.all_eq_true] at hB3
      have := hB3 oi hmem
      unfold Region.wanted
      split
      · rfl
      · rename_i j want hg
        simp only [hg, decide_eq_true_eq] at this
        unfold yielded
        simp only [List.getElem?_toArray, hushLast_at l j this])
    l.toArray.size _ a _ (by simp) (fun j oj hj => by by_cases hjl : j < l.length <;> simp [hjl] at hj) (by
      have hlt : l.length - 1 < l.length := by omega
      simp [hlt]) ?_
  have := wpAny_of_held _ _ _ _ (h hS)
  simpa using this
theorem lateQ_done {l : List Oper} (o : Oper) {a : Act} {w : World} (hl : lastOf l = some o) (hw : Region.wanted o (yielded l.toArray a.tmps) = true) (h : o.wp P a w (Q .normal) Q) : lateQ P l.toArray Q (l.length - 1) .normal a w := by
  rw [lastOf_eq] at hl
  obtain ⟨_, h2⟩ := hushLast_last l o hl
  show wpOp P l.toArray Q (l.length - 1) (Q .normal) a w
  unfold wpOp
  simp only [List.getElem?_toArray, h2]
  rw [if_pos hw]
  exact .inl h
def nthO : List Oper → Nat → Option Oper
  | [], _ => none
  | o :: _, 0 => some o
  | _ :: r, n + 1 => nthO r n
theorem nthO_eq : ∀ (l : List Oper) (i : Nat), l.toArray[i]? = nthO l i
  | [], i => by simp [nthO]
  | o :: r, 0 => by simp [nthO]
  | o :: r, i + 1 => by
    have := nthO_eq r i
    simp only [List.getElem?_toArray, List.getElem?_cons_succ, nthO] at this ⊢
    exact this
theorem takeH {md : Region.Mode} {S : World → Prop} {l : List Oper} (i : Nat) {oi : Oper} {v : Value} {fuel : Nat} {listed : Array Bool} {a : Act} {w : World} (hi : nthO l i = some oi)
    (hs : Region.noSelect l.toArray = true) (hf : Region.free md l.toArray listed i = true) (hr : (Region.ready md l.toArray listed).contains i = true)
    (hQ : ∀ c a w, Q (.panic c) (a.put oi.dst v) w → Q (.panic c) a w) (hy : YieldsIf P l.toArray S oi v a) (hS : S w)
    (h : wpAnyH P md l.toArray Q S fuel (listed.setIfInBounds i true) (a.put oi.dst v) w) : wpAnyH P md l.toArray Q S (fuel + 1) listed a w :=
  wpAnyH_take (by rw [nthO_eq]; exact hi) hs hf hr hQ hy hS h
theorem oneH {md : Region.Mode} {S : World → Prop} {l : List Oper} (i : Nat) {o : Oper} {fuel : Nat} {listed : Array Bool} {a : Act} {w : World} (hr : Region.ready md l.toArray listed = [i]) (ho : nthO l i = some o)
    (h : ∀ K' : Act → World → Prop, Shut (∀ a w, S w → (S w → wpAnyH P md l.toArray Q S fuel (listed.setIfInBounds i true) a w) → K' a w) → if Region.wanted o (yielded l.toArray a.tmps) = true then Oper.wp P o a w K' Q else K' (a.put o.dst undef) w) : wpAnyH P md l.toArray Q S (fuel + 1) listed a w :=
  wpAnyH_ready hr (by simp) (AllReadyH.cons (by rw [nthO_eq]; exact ho) h AllReadyH.nil)
end
end Go.Proofs.YtmmichdlgjcmoaaReg
