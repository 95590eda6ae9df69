import Derived.Test.YtehbekgmemebjaaDoorPvPi
import Derived.Test.YtehbekgmemebjaaDoorPvK0
import Derived.Test.YtehbekgmemebjaaDoorPvPa
namespace Go.Proofs.YtehbekgmemebjaaDoorEv
open Go Go.RowKit Go.Proofs.YtehbekgmemebjaaDoor.PAll.H Go.Proofs.YtehbekgmemebjaaDoorW.PrintWords
set_option linter.unusedVariables false
set_option linter.unusedSimpArgs false
abbrev Tk : Type := Int × Int × Unit
def seg (l : List S55) (e : Tk) : List Int := (List.replicate e.2.1.toNat (Wd l e.1.toNat)).flatten
def sem (l : List S55) (s : List Tk) : List Int := (s.reverse.map (seg l)).flatten
def meas (l : List S55) (s : List Tk) : Nat := (s.map fun e => e.2.1.toNat * Tc l e.1.toNat + 1).sum
theorem sem_snoc (l : List S55) (s : List Tk) (e : Tk) : sem l (s ++ [e]) = seg l e ++ sem l s := by
  unfold sem
  simp
theorem meas_snoc (l : List S55) (s : List Tk) (e : Tk) : meas l (s ++ [e]) = meas l s + (e.2.1.toNat * Tc l e.1.toNat + 1) := by
  unfold meas
  simp
theorem meas_len (l : List S55) (s : List Tk) : s.length ≤ meas l s := by
  unfold meas
  induction s with
  | nil => simp
  | cons e r ih => simp only [List.length_cons, List.map_cons, List.sum_cons]; omega
theorem seg_succ (l : List S55) (n : Int) (t : Nat) : seg l (n, ((t + 1 : Nat) : Int), ()) = Wd l n.toNat ++ seg l (n, (t : Int), ()) := by
  unfold seg
  simp only [Int.toNat_natCast]
  rw [List.replicate_succ, List.flatten_cons]
theorem seg_one (l : List S55) (n : Int) : seg l (n, 1, ()) = Wd l n.toNat := by
  unfold seg
  simp
def okT (l : List S55) (s : List Tk) : Prop := ∀ e ∈ s, 0 ≤ e.1 ∧ e.1 < l.length ∧ 0 ≤ e.2.1 ∧ e.2.1 ≤ 9223372036854775807
theorem cut_init {s : List Tk} {e : Tk} : cutL (s ++ [e]) none (some (s.length : Int)) = some s := by
  have h : (0 : Int) ≤ (s.length : Int) ∧ (s.length : Int) ≤ ((s ++ [e]).length : Int) := by simp; omega
  simp only [cutL, bndHi, bndLo, if_pos h, Option.bind_some, Int.toNat_natCast, List.drop_zero]
  rw [List.take_left]
theorem strI_eq (s : ByteArray) : strI s = bytesOf s := rfl
theorem spell_loop {l : List Nd} {o : List Int} {total : List Int} (hr : Rope (mS l) o) (hlong : total.length ≤ 100000)
    {F : Nat → List Tk × List Nd × List Int × Unit → Option (Sum (List Tk × List Nd × List Int × Unit) (Sum (List Int × Unit) Empty))}
    (f0 : ∀ k out, F k ([], l, out, ()) = some (.inr (.inl (out, ()))))
    (f1 : ∀ k s n out, s.length ≤ 2000000000 → F k (s ++ [(n, 0, ())], l, out, ()) = some (.inl (s, l, out, ())))
    (f2 : ∀ k s n t out x, s.length ≤ 2000000000 → 0 ≤ t → t + 1 ≤ 9223372036854775807 → atL l n = some x → x.1.size ≠ 0 → out.length + x.1.size ≤ 100000 → F k (s ++ [(n, t + 1, ())], l, out, ()) = some (.inl (s ++ [(n, t, ())], l, out ++ bytesOf x.1, ())))
    (f3 : ∀ k s n t out x, s.length ≤ 2000000000 → 0 ≤ t → t + 1 ≤ 9223372036854775807 → atL l n = some x → x.1.size = 0 → x.2.2.2.1 ≠ 0 → F k (s ++ [(n, t + 1, ())], l, out, ()) = some (.inl (s ++ [(n, t, ())] ++ [(x.2.1, x.2.2.2.1, ())], l, out, ())))
    (f4 : ∀ k s n t out x, s.length ≤ 2000000000 → 0 ≤ t → t + 1 ≤ 9223372036854775807 → atL l n = some x → x.1.size = 0 → x.2.2.2.1 = 0 → F k (s ++ [(n, t + 1, ())], l, out, ()) = some (.inl (s ++ [(n, t, ())] ++ [(x.2.2.1, 1, ())] ++ [(x.2.1, 1, ())], l, out, ()))) :
    ∀ a b, (∃ s out, a = (s, l, out, ()) ∧ okT (mS l) s ∧ out ++ sem (mS l) s = total ∧ meas (mS l) s ≤ 1300000000 ∧ b = Sum.inl (total, ())) → EvI F a b := by
  refine EvI.inv (fun a b => ∃ s out, a = (s, l, out, ()) ∧ okT (mS l) s ∧ out ++ sem (mS l) s = total ∧ meas (mS l) s ≤ 1300000000 ∧ b = Sum.inl (total, ())) (fun a => meas (mS l) a.1) ?_
  rintro a b ⟨s, out, rfl, hok, hsem, hme, rfl⟩
  rcases List.eq_nil_or_concat s with rfl | ⟨s, e, rfl⟩
  · refine ⟨.inr (.inl (out, ())), Evn.eq fun k => f0 k out, ?_⟩
    have : out = total := by simpa [sem] using hsem
    show _ = _
    rw [this]
  · obtain ⟨n, t, u⟩ := e
    rw [List.concat_eq_append] at hok hsem hme ⊢
    obtain ⟨n0, n1, t0, t1⟩ : 0 ≤ n ∧ n < (mS l).length ∧ 0 ≤ t ∧ t ≤ 9223372036854775807 := hok (n, t, u) (List.mem_append_right _ (List.mem_singleton.2 rfl))
    have hoks : okT (mS l) s := fun e he => hok e (List.mem_append_left _ he)
    rw [sem_snoc] at hsem
    rw [meas_snoc] at hme
    have hsl : s.length ≤ 2000000000 := by have := meas_len (mS l) s; omega
    by_cases ht : t = 0
    · subst ht
      refine ⟨.inl (s, l, out, ()), Evn.eq fun k => f1 k s n out hsl, ?_, s, out, rfl, hoks, ?_, by omega, rfl⟩
      · simp only [meas_snoc]
        omega
      · have : seg (mS l) (n, 0, u) = [] := rfl
        rw [this, List.nil_append] at hsem
        exact hsem
    · obtain ⟨q, hq⟩ : ∃ q : Nat, t = ((q + 1 : Nat) : Int) := ⟨t.toNat - 1, by omega⟩
      subst hq
      obtain ⟨x, e1, _, e3⟩ := mS_at n0 n1
      have hx : (mS l)[n.toNat]? = some (toS x) := by rw [List.getElem?_map, e3]; rfl
      have hseg : seg (mS l) (n, ((q + 1 : Nat) : Int), u) = Wd (mS l) n.toNat ++ seg (mS l) (n, (q : Int), ()) := seg_succ _ _ _
      rw [hseg] at hsem
      simp only [Int.toNat_natCast] at hme
      have hmul : (q + 1) * Tc (mS l) n.toNat = q * Tc (mS l) n.toNat + Tc (mS l) n.toNat := by rw [Nat.add_mul, Nat.one_mul]
      have hokq : okT (mS l) (s ++ [(n, (q : Int), ())]) := by
        intro e he
        rcases List.mem_append.1 he with he | he
        · exact hoks e he
        · rw [List.mem_singleton.1 he]
          exact ⟨n0, n1, by simp only []; omega, by simp only []; omega⟩
      have eq1 : ((q + 1 : Nat) : Int) = (q : Int) + 1 := by omega
      cases wi hr hx with
      | leaf hs hw htc hv =>
        have hs' : x.1.size ≠ 0 := hs
        have hlen : out.length + x.1.size ≤ 100000 := by
          have := congrArg List.length hsem
          rw [List.length_append, List.length_append, List.length_append, hw, bytesOf_length] at this
          have : (toS x).f0.size = x.1.size := rfl
          omega
        refine ⟨.inl (s ++ [(n, (q : Int), ())], l, out ++ bytesOf x.1, ()), Evn.eq fun k => ?_, ?_, _, _, rfl, hokq, ?_, ?_, rfl⟩
        · rw [eq1]
          exact f2 k s n q out x hsl (by omega) (by omega) e1 hs' hlen
        · simp only [meas_snoc, Int.toNat_natCast]
          omega
        · rw [sem_snoc, ← hsem, hw]
          simp only [List.append_assoc]
          rfl
        · rw [meas_snoc]
          simp only [Int.toNat_natCast]
          omega
      | times a t hs h1 h3 t0' ha hw htc hv =>
        have hs' : x.1.size = 0 := hs
        have h1' : x.2.1 = (a : Int) := h1
        have h3' : x.2.2.2.1 = (t : Int) := h3
        have hb : (t : Int) ≤ 9223372036854775807 := by
          obtain ⟨v, hv', v1, v2, hn⟩ := hr.is hx
          have hrd := rd_at' hv'
          have hga := (hr.good.rd (i := (a : Int)) (by omega) (by rw [hr.len]; omega)).1
          have h2 : (t : Int) * 1 ≤ t * rd o (a : Int) := Int.mul_le_mul_of_nonneg_left hga (by omega)
          omega
        refine ⟨.inl (s ++ [(n, (q : Int), ())] ++ [(x.2.1, x.2.2.2.1, ())], l, out, ()), Evn.eq fun k => ?_, ?_, _, _, rfl, ?_, ?_, ?_, rfl⟩
        · rw [eq1]
          exact f3 k s n q out x hsl (by omega) (by omega) e1 hs' (by omega)
        · simp only [meas_snoc, Int.toNat_natCast, h1', h3']
          omega
        · intro e he
          rcases List.mem_append.1 he with he | he
          · exact hokq e he
          · rw [List.mem_singleton.1 he]
            exact ⟨by simp only []; omega, by simp only []; omega, by simp only []; omega, by simp only []; omega⟩
        · rw [sem_snoc, sem_snoc, ← hsem, hw]
          unfold seg
          simp only [h1', h3', Int.toNat_natCast]
          simp only [List.append_assoc]
        · rw [meas_snoc, meas_snoc]
          simp only [Int.toNat_natCast, h1', h3']
          omega
      | pair a b hs h3 h1 h2 ha hb hw htc hv =>
        have hs' : x.1.size = 0 := hs
        have h1' : x.2.1 = (a : Int) := h1
        have h2' : x.2.2.1 = (b : Int) := h2
        have h3' : x.2.2.2.1 = 0 := h3
        refine ⟨.inl (s ++ [(n, (q : Int), ())] ++ [(x.2.2.1, 1, ())] ++ [(x.2.1, 1, ())], l, out, ()), Evn.eq fun k => ?_, ?_, _, _, rfl, ?_, ?_, ?_, rfl⟩
        · rw [eq1]
          exact f4 k s n q out x hsl (by omega) (by omega) e1 hs' h3'
        · simp only [meas_snoc, Int.toNat_natCast, h1', h2']
          have : (1 : Int).toNat = 1 := rfl
          rw [this]
          omega
        · intro e he
          rcases List.mem_append.1 he with he | he
          · rcases List.mem_append.1 he with he | he
            · exact hokq e he
            · rw [List.mem_singleton.1 he]
              exact ⟨by simp only []; omega, by simp only []; omega, by simp only []; omega, by simp only []; omega⟩
          · rw [List.mem_singleton.1 he]
            exact ⟨by simp only []; omega, by simp only []; omega, by simp only []; omega, by simp only []; omega⟩
        · rw [sem_snoc, sem_snoc, sem_snoc, ← hsem, hw, seg_one, seg_one, h1', h2', Int.toNat_natCast, Int.toNat_natCast]
          simp only [List.append_assoc]
        · rw [meas_snoc, meas_snoc, meas_snoc]
          have : (1 : Int).toNat = 1 := rfl
          simp only [Int.toNat_natCast, h1', h2', this]
          omega
theorem cost_root {l : List S55} {o : List Int} (h : Rope l o) (hp : 0 < l.length) (hl : (ropeW l).length ≤ 100000) : 1 * Tc l (l.length - 1) + 1 ≤ 1300000000 := by
  have h1 := T_le h (l.length - 1) (by omega)
  have hle := h.le
  have hw : ropeW l = Wd l (l.length - 1) := by unfold ropeW; rw [if_neg (by omega)]
  rw [hw] at hl
  have h2 : 3 * (l.length - 1 + 1) * (Wd l (l.length - 1)).length ≤ 12000 * 100000 := Nat.mul_le_mul (by omega) hl
  omega
theorem F39_ok {l : List Nd} {o : List Int} (h : lens (mS l) = some o) (hl : ¬ wholeL o > 100000) : Evn (fun k => F39 k (l, ())) (strOfNums (ropeW (mS l)), ()) := by
  have hr := rope_of h
  have hle := hr.le
  have hw := ropeW_len hr
  rw [mS_len] at hle
  have hlong : (ropeW (mS l)).length ≤ 100000 := by omega
  unfold F39
  simp only []
  refine Evn.bind (a := Sum.inl (ropeW (mS l), ())) ?_ (Evn.now _)
  refine EvI.ev ?_
  by_cases h0 : l.length = 0
  · refine EvI.done (Evn.eq fun k => ?_)
    have hwz : ropeW (mS l) = [] := by unfold ropeW; rw [if_pos (by rw [mS_len]; exact h0)]
    rw [hwz]
    simp [h0, sumE]
  · have big : ∀ (s : List Tk) (n m : Nat), s.length ≤ 2000000000 → n ≤ 10 → bigB (s.length + n) 16 = false := fun s n m h1 h2 => by
      unfold bigB
      exact decide_eq_false (by omega)
    have idx : ∀ (s : List Tk) (e : Tk), s.length ≤ 2000000000 → IntKind.i64.wrap (((s ++ [e]).length : Int) - 1) = (s.length : Int) := fun s e h1 => by
      rw [List.length_append, List.length_singleton, i64w (by omega) (by omega)]
      omega
    have pos1 : ∀ (s : List Tk) (e : Tk), decide (((s ++ [e]).length : Int) > 0) = true := fun s e => decide_eq_true (by simp)
    have pos2 : decide ((l.length : Int) > 0) = true := decide_eq_true (by omega)
    have inr : ∀ (s : List Tk) (e : Tk), (0 : Int) ≤ (s.length : Int) ∧ (s.length : Int) < ((s ++ [e]).length : Int) := fun s e => by simp; omega
    have at0 : ∀ (s : List Tk) (e : Tk), atL (s ++ [e]) (s.length : Int) = some e := fun s e => atL_nat (by simp)
    have set0 : ∀ (s : List Tk) (e e' : Tk), (s ++ [e]).set ((s.length : Int)).toNat e' = s ++ [e'] := fun s e e' => by
      rw [Int.toNat_natCast, List.set_append, if_neg (by omega), Nat.sub_self]
      rfl
    have e0 : (List.replicate (1 : Nat) ((0 : Int), (0 : Int), ())).set (0 : Nat) (IntKind.i64.wrap ((l.length : Int) - 1), (1 : Int), ()) = [(((l.length : Int) - 1), 1, ())] := by
      rw [i64w (by omega) (by omega)]
      rfl
    rw [e0]
    refine spell_loop (l := l) (o := o) (total := ropeW (mS l)) hr hlong ?f0 ?f1 ?f2 ?f3 ?f4 _ _ ⟨[(((l.length : Int) - 1), 1, ())], [], rfl, ?ok, ?sem, ?me, rfl⟩
    case ok =>
      intro e he
      rw [List.mem_singleton.1 he, mS_len]
      exact ⟨by simp only []; omega, by simp only []; omega, by simp only []; omega, by simp only []; omega⟩
    case sem =>
      have : ([] : List Tk) ++ [(((l.length : Int) - 1), (1 : Int), ())] = [(((l.length : Int) - 1), 1, ())] := rfl
      rw [← this, sem_snoc, seg_one]
      unfold ropeW sem
      rw [if_neg (by rw [mS_len]; exact h0), mS_len, show ((l.length : Int) - 1).toNat = l.length - 1 by omega]
      simp
    case me =>
      have := cost_root hr (by rw [mS_len]; omega) hlong
      rw [mS_len] at this
      unfold meas
      simp only [List.map_cons, List.map_nil, List.sum_cons, List.sum_nil]
      rw [show ((l.length : Int) - 1).toNat = l.length - 1 by omega]
      have e1 : (1 : Int).toNat = 1 := rfl
      rw [e1]
      omega
    · intro k out
      simp [sumE]
    · intro k s n out hs
      simp only [pos1, if_true, pos2, Option.bind_some, sumE, idx _ _ hs, if_pos (inr _ _), at0, beq_self_eq_true, cut_init]
    · intro k s n t out x hs t0 t1 hx hsz hlen
      have z : (t + 1 == (0 : Int)) = false := by rw [beq_eq_false_iff_ne]; omega
      have w : IntKind.i64.wrap (t + 1 - 1) = t := by rw [i64w (by omega) (by omega)]; omega
      have b1 : bigB (out.length + (bytesOf x.1).length) 1 = false := bigF (by rw [bytesOf_length]; omega) (by omega)
      simp only [pos1, if_true, pos2, Option.bind_some, sumE, idx _ _ hs, if_pos (inr _ _), at0, z, Bool.false_eq_true, if_false, w, set0, hx, toL_eq, decide_eq_false hsz, Bool.not_false, strI_eq, b1, Bool.false_eq_true, if_false]
    · intro k s n t out x hs t0 t1 hx hsz h3
      have z : (t + 1 == (0 : Int)) = false := by rw [beq_eq_false_iff_ne]; omega
      have w : IntKind.i64.wrap (t + 1 - 1) = t := by rw [i64w (by omega) (by omega)]; omega
      have h3' : (x.2.2.2.1 != (0 : Int)) = true := by simpa using h3
      have b1 : ∀ e : Tk, bigB ((s ++ [(n, t, ())]).length + ((List.replicate (1 : Nat) ((0 : Int), (0 : Int), ())).set (0 : Nat) e).length) 16 = false := fun e => by
        rw [List.length_append, List.length_singleton, List.length_set, List.length_replicate, Nat.add_assoc]
        exact big s 2 0 hs (by omega)
      simp only [pos1, if_true, pos2, Option.bind_some, sumE, idx _ _ hs, if_pos (inr _ _), at0, z, Bool.false_eq_true, if_false, w, set0, hx, toL_eq, decide_eq_true hsz, Bool.not_true, h3', b1]
      rfl
    · intro k s n t out x hs t0 t1 hx hsz h3
      have z : (t + 1 == (0 : Int)) = false := by rw [beq_eq_false_iff_ne]; omega
      have w : IntKind.i64.wrap (t + 1 - 1) = t := by rw [i64w (by omega) (by omega)]; omega
      have h3' : (x.2.2.2.1 != (0 : Int)) = false := by simpa using h3
      have b1 : ∀ e e' : Tk, bigB ((s ++ [(n, t, ())]).length + (((List.replicate (2 : Nat) ((0 : Int), (0 : Int), ())).set (0 : Nat) e).set (1 : Nat) e').length) 16 = false := fun e e' => by
        rw [List.length_append, List.length_singleton, List.length_set, List.length_set, List.length_replicate, Nat.add_assoc]
        exact big s 3 0 hs (by omega)
      simp only [pos1, if_true, pos2, Option.bind_some, sumE, idx _ _ hs, if_pos (inr _ _), at0, z, Bool.false_eq_true, if_false, w, set0, hx, toL_eq, decide_eq_true hsz, Bool.not_true, h3', b1]
      simp
theorem F18_none {l : List Nd} (h : lens (mS l) = none) : Evn (fun k => F18 k (l, ())) (⟨#[]⟩, 20, ()) := by
  unfold F18
  simp only []
  exact Evn.bind (Evn.eq fun k => H31_none k h) (Evn.now _)
theorem F18_long {l : List Nd} {o : List Int} (h : lens (mS l) = some o) (hl : wholeL o > 100000) : Evn (fun k => F18 k (l, ())) (⟨#[]⟩, 2, ()) := by
  have hlen := (rope_of h).len
  have hle := (rope_of h).le
  unfold F18
  simp only []
  refine Evn.bind (Evn.eq fun k => H31_some k h) ?_
  simp only [bne_self_eq_false, Bool.false_eq_true, if_false]
  refine Evn.bind (Evn.eq fun k => F32_ev k (by omega)) ?_
  simp only [decide_eq_true hl, if_true]
  exact Evn.now _
theorem F18_ok {l : List Nd} {o : List Int} (h : lens (mS l) = some o) (hl : ¬ wholeL o > 100000) : Evn (fun k => F18 k (l, ())) (strOfNums (ropeW (mS l)), 0, ()) := by
  have hlen := (rope_of h).len
  have hle := (rope_of h).le
  unfold F18
  simp only []
  refine Evn.bind (Evn.eq fun k => H31_some k h) ?_
  simp only [bne_self_eq_false, Bool.false_eq_true, if_false]
  refine Evn.bind (Evn.eq fun k => F32_ev k (by omega)) ?_
  simp only [decide_eq_false hl, Bool.false_eq_true, if_false]
  exact Evn.bind (F39_ok h hl) (Evn.now _)
end Go.Proofs.YtehbekgmemebjaaDoorEv
namespace Go.Proofs.YtehbekgmemebjaaDoorEv
open Go Go.RowKit Go.Proofs.YtehbekgmemebjaaDoor.PAll.H Go.Proofs.YtehbekgmemebjaaDoorW.PrintWords
set_option linter.unusedVariables false
set_option linter.unusedSimpArgs false
theorem rope_snoc {L : List S55} {o : List Int} (h : Rope L o) {x : S55} {v : Int} (hs : stepL o x = some v) (hl : L.length + 1 ≤ 4000) : Rope (L ++ [x]) (o ++ [v]) := by
  have hlen := h.len
  have hg := stepL_good h.good hs
  refine ⟨by simp; omega, by simp [hlen], ?_, ?_⟩
  · intro z hz
    rcases List.mem_append.1 hz with hz | hz
    · exact h.good z hz
    · rw [List.mem_singleton.1 hz]; exact hg
  · intro j y hy
    rw [List.getElem?_append] at hy
    split at hy
    · obtain ⟨w, p, q⟩ := h.node j y hy
      exact ⟨w, by rw [List.take_append_of_le_length (by omega)]; exact p, by rw [List.getElem?_append_left (by omega)]; exact q⟩
    · have hj : j = L.length := by
        have := (List.getElem?_eq_some_iff.1 hy).1
        simp at this
        omega
      subst hj
      have hy' : y = x := by simpa using hy.symm
      subst hy'
      exact ⟨v, by rw [List.take_append_of_le_length (by omega), List.take_of_length_le (by omega)]; exact hs, by rw [List.getElem?_append_right (by omega)]; simp [hlen]⟩
theorem foldD_snoc {α : Type} (f : List α → S55 → α) : ∀ (r : List S55) (done : List α) (x : S55), foldD f done (r ++ [x]) = foldD f done r ++ [f (foldD f done r) x]
  | [], done, x => rfl
  | y :: r, done, x => by
    show foldD f (done ++ [f done y]) (r ++ [x]) = _
    rw [foldD_snoc f r]
    rfl
theorem words_snoc (L : List S55) (x : S55) : wordsL (L ++ [x]) = wordsL L ++ [wordOf (wordsL L) x] := foldD_snoc _ _ _ _
theorem words_len (L : List S55) : (wordsL L).length = L.length := by
  have := (foldD_spec wordOf L []).1
  simpa [wordsL] using this
theorem Wd_old {L : List S55} {x : S55} {j : Nat} (h : j < L.length) : Wd (L ++ [x]) j = Wd L j := by
  unfold Wd
  rw [words_snoc, List.getD_eq_getElem?_getD, List.getD_eq_getElem?_getD, List.getElem?_append_left (by rw [words_len]; exact h)]
theorem Wd_new {L : List S55} {x : S55} : Wd (L ++ [x]) L.length = wordOf (wordsL L) x := by
  unfold Wd
  rw [words_snoc, List.getD_eq_getElem?_getD, List.getElem?_append_right (by rw [words_len]; omega), words_len, Nat.sub_self]
  rfl
theorem ropeW_snoc {L : List S55} {x : S55} : ropeW (L ++ [x]) = wordOf (wordsL L) x := by
  unfold ropeW
  rw [if_neg (by simp), List.length_append, List.length_singleton, Nat.add_sub_cancel, Wd_new]
theorem step_leaf {d : List Int} {p : ByteArray} (h0 : p.size ≠ 0) (h1 : p.size ≤ 100) (ha : allLB p = true) : stepL d (toS (leafN p)) = some (p.size : Int) := by
  unfold stepL toS leafN
  simp only [h0, if_false]
  rw [if_pos ⟨h1, trivial, trivial, trivial, checkS_ok.2 ⟨by omega, ha⟩⟩]
theorem ofStep_ok {out : List Nd} {o : List Int} {p : ByteArray} (h : Rope (mS out) o) (h0 : p.size ≠ 0) (h1 : p.size ≤ 100) (ha : allLB p = true) (hw : wholeL o + p.size ≤ 100000) (hl : out.length + 2 ≤ 4000) :
    ∃ o', Rope (mS (ofStep out p)) o' ∧ ropeW (mS (ofStep out p)) = ropeW (mS out) ++ bytesOf p ∧ wholeL o' = wholeL o + p.size := by
  have hlen := h.len
  rw [mS_len] at hlen
  have wl : ∀ (q : List Int) (v : Int), wholeL (q ++ [v]) = v := fun q v => by
    unfold wholeL lastL
    rw [if_neg (by simp), List.length_append, List.length_singleton, show ((q.length + 1 : Nat) : Int) - 1 = (q.length : Int) by omega]
    have := rd_app_right (a := q) (b := [v]) (i := 0) (by omega)
    rw [Int.zero_add] at this
    rw [this]
    rfl
  unfold ofStep
  by_cases he : out.length = 0
  · rw [if_pos he]
    have ho : out = [] := List.length_eq_zero_iff.1 he
    subst ho
    have hoo : o = [] := List.length_eq_zero_iff.1 hlen
    subst hoo
    have hr := rope_snoc h (step_leaf (d := []) h0 h1 ha) (by simp)
    refine ⟨_, hr, ?_, ?_⟩
    · show ropeW ([] ++ [toS (leafN p)]) = _
      rw [ropeW_snoc]
      unfold wordOf
      rw [if_pos (show (toS (leafN p)).f0.size ≠ 0 from h0)]
      rfl
    · rw [wl]
      have : wholeL ([] : List Int) = 0 := rfl
      rw [this, Int.zero_add]
  · rw [if_neg he]
    have hr1 := rope_snoc h (step_leaf (d := o) h0 h1 ha) (by rw [mS_len]; omega)
    have hwl : wholeL o = rd o ((out.length : Int) - 1) := by
      unfold wholeL lastL
      rw [if_neg (by omega), hlen]
    have hg := h.good.rd (i := (out.length : Int) - 1) (by omega) (by omega)
    have e1 : rd (o ++ [(p.size : Int)]) ((out.length : Int) - 1) = wholeL o := by rw [rd_app_left (by omega) (by omega), hwl]
    have e2 : rd (o ++ [(p.size : Int)]) (out.length : Int) = p.size := by
      have := rd_app_right (a := o) (b := [(p.size : Int)]) (i := 0) (by omega)
      rw [Int.zero_add, hlen] at this
      rw [this]
      rfl
    have hs2 : stepL (o ++ [(p.size : Int)]) (toS (pairN ((out.length : Int) - 1) (out.length : Int))) = some (wholeL o + p.size) := by
      unfold stepL toS pairN
      have hz : (⟨#[]⟩ : ByteArray).size = 0 := rfl
      simp only [hz, if_true, e1, e2]
      rw [if_pos ⟨by omega, by simp; omega, by omega, by simp; omega, by omega⟩]
    have hr2 := rope_snoc hr1 hs2 (by rw [List.length_append, mS_len, List.length_singleton]; omega)
    have hm : mS (out ++ [leafN p] ++ [pairN ((out.length : Int) - 1) (out.length : Int)]) = mS out ++ [toS (leafN p)] ++ [toS (pairN ((out.length : Int) - 1) (out.length : Int))] := by simp [mS]
    rw [hm]
    refine ⟨_, hr2, ?_, wl _ _⟩
    rw [ropeW_snoc]
    unfold wordOf
    rw [if_neg (show ¬ (toS (pairN ((out.length : Int) - 1) (out.length : Int))).f0.size ≠ 0 from fun h => h rfl), if_neg (show ¬ (toS (pairN ((out.length : Int) - 1) (out.length : Int))).f3 ≠ 0 from fun h => h rfl)]
    have a1 : (toS (pairN ((out.length : Int) - 1) (out.length : Int))).f1.toNat = out.length - 1 := by
      show ((out.length : Int) - 1).toNat = _
      omega
    have a2 : (toS (pairN ((out.length : Int) - 1) (out.length : Int))).f2.toNat = out.length := by
      show ((out.length : Int)).toNat = _
      omega
    rw [a1, a2]
    have q1 : (wordsL (mS out ++ [toS (leafN p)])).getD (out.length - 1) [] = ropeW (mS out) := by
      have := Wd_old (L := mS out) (x := toS (leafN p)) (j := out.length - 1) (by rw [mS_len]; omega)
      unfold Wd at this
      rw [this]
      unfold ropeW
      rw [if_neg (by rw [mS_len]; exact he), mS_len]
      rfl
    have q2 : (wordsL (mS out ++ [toS (leafN p)])).getD out.length [] = bytesOf p := by
      have := Wd_new (L := mS out) (x := toS (leafN p))
      rw [mS_len] at this
      unfold Wd at this
      rw [this]
      unfold wordOf
      rw [if_pos (show (toS (leafN p)).f0.size ≠ 0 from h0)]
      rfl
    rw [q1, q2]
theorem bytes_extract {s : ByteArray} {a b : Nat} (h : b ≤ s.size) : bytesOf (s.extract a b) = ((bytesOf s).take b).drop a := by
  unfold bytesOf
  rw [← List.map_take, ← List.map_drop]
  congr 1
  show (s.extract a b).data.toList = _
  rw [ByteArray.data_extract, Array.toList_extract]
  simp [List.extract_eq_take_drop, List.drop_take]
theorem all_extract {s : ByteArray} {a b : Nat} (h : b ≤ s.size) (ha : allLB s = true) : allLB (s.extract a b) = true := by
  unfold allLB at ha ⊢
  rw [bytes_extract h]
  rw [List.all_eq_true] at ha ⊢
  intro x hx
  exact ha x (List.mem_of_mem_take (List.mem_of_mem_drop hx))
theorem ofStep_len (out : List Nd) (p : ByteArray) : (ofStep out p).length = if out.length = 0 then 1 else out.length + 2 := by
  unfold ofStep
  split <;> simp
theorem ofF_ok : ∀ (k : Nat) (out : List Nd) (o : List Int) (s : ByteArray), s.size < k → allLB s = true → Rope (mS out) o → wholeL o + s.size ≤ 100000 → (out.length = 0 ∨ (out.length : Int) + 1 ≤ 2 * ((wholeL o + 99) / 100)) → (wholeL o % 100 = 0 ∨ s.size = 0) →
    ∃ o', Rope (mS (ofF k out s)) o' ∧ ropeW (mS (ofF k out s)) = ropeW (mS out) ++ bytesOf s ∧ wholeL o' = wholeL o + s.size ∧ ((ofF k out s).length = 0 ∨ ((ofF k out s).length : Int) + 1 ≤ 2 * ((wholeL o' + 99) / 100)) := by
  intro k
  induction k with
  | zero => intro out o s h; omega
  | succ k ih =>
    intro out o s hk ha hr hw hl hm
    unfold ofF
    by_cases h0 : s.size = 0
    · rw [if_pos h0]
      have hb : bytesOf s = [] := List.length_eq_zero_iff.1 (by rw [bytesOf_length]; exact h0)
      exact ⟨o, hr, by rw [hb, List.append_nil], by omega, hl⟩
    · rw [if_neg h0]
      have hm := hm.resolve_right h0
      have hp : (s.extract 0 (min s.size 100)).size = min s.size 100 := by rw [ByteArray.size_extract]; omega
      have hq : (s.extract (min s.size 100) s.size).size = s.size - min s.size 100 := by rw [ByteArray.size_extract]; omega
      have hwr := wholeL_range (rope_lens hr)
      obtain ⟨o1, r1, r2, r3⟩ := ofStep_ok (p := s.extract 0 (min s.size 100)) hr (by omega) (by omega) (all_extract (by omega) ha) (by omega) (by omega)
      obtain ⟨o2, t1, t2, t3, t4⟩ := ih (ofStep out (s.extract 0 (min s.size 100))) o1 (s.extract (min s.size 100) s.size) (by omega) (all_extract (by omega) ha) r1 (by omega) (by rw [ofStep_len, r3]; split <;> omega) (by omega)
      refine ⟨o2, t1, ?_, by omega, t4⟩
      rw [t2, r2, List.append_assoc, bytes_extract (by omega), bytes_extract (by omega)]
      congr 1
      rw [List.drop_zero]
      have : (bytesOf s).take s.size = bytesOf s := List.take_of_length_le (by rw [bytesOf_length]; omega)
      rw [this, List.take_append_drop]
theorem ofS_ok {s : ByteArray} (h : checkS s = 0) : ∃ o, lens (mS (ofS s)) = some o ∧ ropeW (mS (ofS s)) = bytesOf s ∧ wholeL o = s.size ∧ ((ofS s).length : Int) ≤ (s.size : Int) / 50 + 1 := by
  obtain ⟨h1, h2⟩ := checkS_ok.1 h
  have hr0 : Rope (mS []) [] := rope_of (l := []) rfl
  have hw0 : wholeL ([] : List Int) = 0 := rfl
  obtain ⟨o, q1, q2, q3, q4⟩ := ofF_ok (s.size + 1) [] [] s (by omega) h2 hr0 (by omega) (.inl rfl) (.inl (by rw [hw0]; rfl))
  refine ⟨o, rope_lens q1, ?_, by rw [q3, hw0, Int.zero_add], ?_⟩
  · show ropeW (mS (ofF _ _ _)) = _
    rw [q2]
    rfl
  · show ((ofF (s.size + 1) [] s).length : Int) ≤ _
    rw [hw0, Int.zero_add] at q3
    rw [q3] at q4
    omega
theorem ofS_nil {s : ByteArray} (h : s.size = 0) : ofS s = [] := by
  unfold ofS ofF
  rw [if_pos h]
end Go.Proofs.YtehbekgmemebjaaDoorEv
namespace Go.Proofs.YtehbekgmemebjaaDoorEv
open Go Go.RowKit Go.Proofs.YtehbekgmemebjaaDoor.PAll.H
set_option linter.unusedVariables false
set_option linter.unusedSimpArgs false
theorem of20_eq {H : Hp} (hG : GG H) (s : ByteArray) : of20 20 #[.string s] H = (if checkS s = 0 then
      (if (ofS s).length = 0 then some (.ret (.tuple #[.slice none 0 0, .int .i64 0]) H)
       else some (.ret (.tuple #[.slice (some ⟨H.size, 0, some 2⟩) (ofS s).length (ofS s).length, .int .i64 0]) (H.new (.cells ((ofS s).flatMap encN) ⟨4, 55, false⟩ false))))
     else some (.ret (.tuple #[.slice none 0 0, .int .i64 1]) H)) := by
  have h : 20 = 20 ∧ GG H ∧ ∃ s', (#[.string s] : Array Value) = #[.string s'] := ⟨rfl, hG, s, rfl⟩
  have hc : h.2.2.choose = s := by
    have h3 : some (Value.string s) = some (Value.string h.2.2.choose) := congrArg (fun a : Array Value => a[0]?) h.2.2.choose_spec
    exact (Value.string.inj (Option.some.inj h3)).symm
  unfold of20
  rw [dif_pos h, hc]
def F20 (_ : Nat) (e : ByteArray × Unit) : Option (List Nd × Int × Unit) := if checkS e.1 = 0 then some (ofS e.1, (0 : Int), ()) else some ([], (1 : Int), ())
theorem encN_rep {H : Hp} {Z : Nat → Prop} (x : Nd) : Rep H Z N55 x (encN x) := ⟨[_], [_, _, _], rfl, rfl, ⟨[_], [_, _], rfl, rfl, ⟨[_], [_], rfl, rfl, ⟨[_], [], rfl, rfl, rfl⟩⟩⟩⟩
theorem encN_reps {H : Hp} {Z : Nat → Prop} : ∀ l : List Nd, All2 (Rep H Z N55) l (l.map encN)
  | [] => trivial
  | x :: r => ⟨encN_rep x, encN_reps r⟩
def pc20 : PC KK GG := ⟨20, [.str], [(.sl N55, none), (.int .i64, none)], F20, fun k H Z e vs hG hz ha r hr => by
  obtain ⟨v, rfl, hv⟩ := args1 ha
  rw [repv_str] at hv
  subst hv
  have hK : ∀ r', of20 20 #[.string e.1] H = some r' → KK 20 #[.string e.1] H = some r' := fun r' h => lim_iff.2 ⟨1, by
    have ho : orc 13 GG 20 #[.string e.1] H = none := by unfold orc; rw [if_neg (fun hc => by cases hc.1)]
    simp only [evCall, xo, ho, h]⟩
  rw [of20_eq hG] at hK
  unfold F20 at hr
  by_cases hc : checkS e.1 = 0
  · rw [if_pos hc] at hr hK
    cases hr
    by_cases h0 : (ofS e.1).length = 0
    · rw [if_pos h0] at hK
      have hn : ofS e.1 = [] := List.length_eq_zero_iff.1 h0
      exact ⟨_, H, Z, [_, _], hK _ rfl, Kept.refl H, fun _ h => h, hz, fun _ h _ => h, rfl, repv_sl.2 ⟨none, 0, by rw [hn]; rfl, .inl ⟨hn, fun _ => rfl⟩⟩, repv_int.2 rfl, trivial⟩
    · rw [if_neg h0] at hK
      refine ⟨_, H.new (.cells ((ofS e.1).flatMap encN) ⟨4, 55, false⟩ false), fun c => Z c ∨ c = H.size, [_, _], hK _ rfl, ?_, fun _ h => .inl h, ?_, ?_, rfl, ?_, repv_int.2 rfl, trivial⟩
      · exact Kept.new _ _
      · rintro c (h | rfl)
        · have := hz c h
          rw [Hp.size_new]; omega
        · rw [Hp.size_new]; omega
      · rintro c (h | rfl) hl
        · exact h
        · omega
      · rw [repv_sl]
        refine ⟨some ⟨H.size, 0, some 2⟩, _, rfl, .inr ⟨H.size, 0, some 2, _, _, _, (ofS e.1).map encN, [], rfl, .inr rfl, by rw [Hp.get_new, if_pos rfl], ?_, encN_reps _, .inl rfl, by decide, Nat.le_refl _⟩⟩
        rw [List.drop_zero, List.append_nil, List.flatMap_def]
  · rw [if_neg hc] at hr hK
    cases hr
    exact ⟨_, H, Z, [_, _], hK _ rfl, Kept.refl H, fun _ h => h, hz, fun _ h _ => h, rfl, repv_sl.2 ⟨none, 0, rfl, .inl ⟨rfl, fun _ => rfl⟩⟩, repv_int.2 rfl, trivial⟩⟩
end Go.Proofs.YtehbekgmemebjaaDoorEv
