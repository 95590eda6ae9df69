import Derived.Test.YtehbekgmemebjaaDoorSlLen
import Derived.Test.YtehbekgmemebjaaDoorEvX
namespace Go.Proofs.YtehbekgmemebjaaDoorEv
open Go Go.RowKit
set_option linter.unusedVariables false
set_option linter.unusedSimpArgs false
attribute [local go_sem] evOp beq_true beq_false List.getElem?_toArray List.getElem?_cons_zero List.getElem?_cons_succ env_tmp env_const env_func env_global nx_get nx_getn nx_H nx_ds nx_df nx_pm get_enter one_ne_zero' zero_ne_one' if_false if_true ite_true ite_false List.getD_cons_zero List.getD_cons_succ Option.map_some Option.map_none Option.bind_some binO unO eqO List.map_toArray List.map_cons List.map_nil Array.append_empty Array.empty_append List.nil_append List.append_nil List.append_toArray List.cons_append ne_eq not_true_eq_false Bool.false_eq_true Bool.not_true Bool.not_false Bool.true_eq_false rcv_get rcv_H rcv_ds rcv_df rcv_pm dfr_get dfr_H dfr_ds dfr_df dfr_pm
section
variable {bs : Option Addr} {cp : Nat} {l0 : List S55} {H : Hp}
set_option maxHeartbeats 8000000 in
theorem K31 (hL : GG H) (hA : l0 = [] ∨ ∃ b o sp bc u ro rst, bs = some ⟨b, o, sp⟩ ∧ b < H.size ∧ H.get b = some (.cells bc u ro) ∧ bc.drop o = l0.flatMap enc55 ++ rst) : ∃ H', Keep H H' ∧
    ((∃ out b, lens l0 = some out ∧ H.size ≤ b ∧ b < H'.size ∧ K 31 #[.slice bs l0.length cp] H = some (.ret (.tuple #[.slice (some ⟨b, 0, none⟩) l0.length l0.length, .int .i64 0]) H') ∧ H'.get b = some (.cells (out.map (Value.int .i64)) ⟨0, 3, true⟩ false) ∧ out.length = l0.length ∧ goodL out) ∨
     (lens l0 = none ∧ K 31 #[.slice bs l0.length cp] H = some (.ret (.tuple #[.slice none 0 0, .int .i64 20]) H'))) := by
  obtain ⟨M, hM⟩ : ∃ M, H.size = M := ⟨_, rfl⟩
  obtain ⟨H1, hH1⟩ : ∃ H1, H.new (.cells [.slice none 0 0] ⟨0, 42, true⟩ false) = H1 := ⟨_, rfl⟩
  have hM1 : H1.size = M + 1 := by rw [← hH1, Hp.size_new, hM]
  obtain ⟨H2, hH2⟩ : ∃ H2, H1.new (.cells [.int .i64 0] ⟨0, 23, true⟩ false) = H2 := ⟨_, rfl⟩
  have k2 : Keep H H2 := by rw [← hH2, ← hH1]; exact (Keep.new _ _).trans (Keep.new _ _)
  have hM2 : H2.size = M + 2 := by rw [← hH2, Hp.size_new, hM1]
  have v1 : H2.get M = some (.cells [.slice none 0 0] ⟨0, 42, true⟩ false) := by
    rw [← hH2, ← hH1]; simp only [Hp.get_new, Hp.size_new, hM]; rw [if_neg (by omega)]; simp
  have v2 : H2.get (M + 1) = some (.cells [.int .i64 0] ⟨0, 23, true⟩ false) := by
    rw [← hH2]; simp only [Hp.get_new, hM1]; simp
  obtain ⟨H3, k3, hcase⟩ := K50 (cp := cp) (hL.keep k2) (hA.imp id fun ⟨b, o, sp, bc, u, ro, rst, e1, e2, e3, e4⟩ => ⟨b, o, sp, bc, u, ro, rst, e1, by have := k2.1; omega, (k2.2 b e2).trans e3, e4⟩)
  have w1 : H3.get M = some (.cells [.slice none 0 0] ⟨0, 42, true⟩ false) := (k3.2 M (by omega)).trans v1
  have w2 : H3.get (M + 1) = some (.cells [.int .i64 0] ⟨0, 23, true⟩ false) := (k3.2 (M + 1) (by omega)).trans v2
  rcases hcase with ⟨out, a1, a2, a3, a4, a5, a6⟩ | ⟨a1, a2⟩
  · obtain ⟨H4, hH4⟩ : ∃ H4, H3.put M (.cells [.slice (some ⟨H2.size, 0, none⟩) l0.length l0.length] ⟨0, 42, true⟩ false) = H4 := ⟨_, rfl⟩
    obtain ⟨H5, hH5⟩ : ∃ H5, H4.put (M + 1) (.cells [.int .i64 0] ⟨0, 23, true⟩ false) = H5 := ⟨_, rfl⟩
    have s1 : storeO H3 1 (.slice (some ⟨H2.size, 0, none⟩) l0.length l0.length) (.pointer (some ⟨M, 0, none⟩)) = some H4 := by
      rw [← hH4]; simp only [storeO, w1]; simp [Value.cells, isCell, setL]
    have s2 : storeO H4 1 (.int .i64 0) (.pointer (some ⟨M + 1, 0, none⟩)) = some H5 := by
      rw [← hH5, ← hH4]; simp only [storeO, Hp.get_put]; rw [if_neg (by omega), w2]; simp [Value.cells, isCell, setL]
    have l1 : loadO H5 (.pointer (some ⟨M, 0, none⟩)) = some (.slice (some ⟨H2.size, 0, none⟩) l0.length l0.length) := by
      rw [← hH5, ← hH4]; simp only [loadO, Hp.get_put]; rw [if_neg (by omega)]; simp
    have l2 : loadO H5 (.pointer (some ⟨M + 1, 0, none⟩)) = some (.int .i64 0) := by
      rw [← hH5]; simp only [loadO, Hp.get_put]; simp
    refine ⟨H5, ?_, .inl ⟨out, H2.size, a1, by rw [hM2, hM]; omega, by rw [← hH5, ← hH4]; exact a4, K_call a31_eq (by simp [a31]) ?_, ?_, a5, a6⟩⟩
    · rw [← hH5, ← hH4]; exact ((k2.trans k3).put (by omega) _).put (by omega) _
    · unfold a31
      repeat' (first
          | refine W.seq ?_
          | refine W.wo ?_
          | refine WO.nil ?_
          | (apply WO.callv; (case e => (simp only [go_sem, Nat.reduceEqDiff, Nat.reduceAdd, reduceIte, hM, hH1, hM1, hH2, a2, s1, s2]; first | done | with_reducible rfl)); (case c => (simp only [go_sem, Nat.reduceEqDiff, Nat.reduceAdd, reduceIte, hM, hH1, hM1, hH2, a2, s1, s2]; first | done | with_reducible rfl)))
          | (apply WO.ok; (case e => (simp only [go_sem, Nat.reduceEqDiff, Nat.reduceAdd, reduceIte, hM, hH1, hM1, hH2, a2, s1, s2]; first | done | with_reducible rfl)))
          | refine W.ret ?_
          | (apply WO.defv; (case e => (simp only [go_sem, Nat.reduceEqDiff, Nat.reduceAdd, reduceIte, hM, hH1, hM1, hH2, a2, s1, s2]; first | done | with_reducible rfl)); (case hd => (simp only [go_sem, Nat.reduceEqDiff, Nat.reduceAdd, reduceIte, hM, hH1, hM1, hH2, a2, s1, s2]; first | done | with_reducible rfl))))
      refine leave_one (f := 49) (args := #[.pointer (some ⟨M, 0, none⟩), .pointer (some ⟨M + 1, 0, none⟩)]) (by (simp only [go_sem, Nat.reduceEqDiff, Nat.reduceAdd, reduceIte]; first | done | with_reducible rfl)) a49_eq (by simp [a49]) rfl ?_
      unfold a49
      repeat' (first
          | refine WO.nil ?_
          | (apply WO.ok; (case e => (simp only [go_sem, Nat.reduceEqDiff, Nat.reduceAdd, reduceIte]; first | done | with_reducible rfl)))
          | refine WS.seq ?_
          | refine WS.wo ?_
          | refine WS.skip ?_
          | (apply WS.branch; (case e => (simp only [go_sem, Nat.reduceEqDiff, Nat.reduceAdd, reduceIte]; first | done | with_reducible rfl)))
          | (apply WO.recover0; (case hd => (simp only [go_sem, Nat.reduceEqDiff, Nat.reduceAdd, reduceIte]; first | done | with_reducible rfl)); (case hp => (simp only [go_sem, Nat.reduceEqDiff, Nat.reduceAdd, reduceIte]; first | done | with_reducible rfl)))
          | with_reducible exact ft
          | intro _)
      exact ⟨.inl rfl, by (simp only [go_sem, Nat.reduceEqDiff, Nat.reduceAdd, reduceIte]; first | done | with_reducible rfl), .inl (by (simp only [go_sem, Nat.reduceEqDiff, Nat.reduceAdd, reduceIte]; first | done | with_reducible rfl)), by (simp only [go_sem, Nat.reduceEqDiff, Nat.reduceAdd, reduceIte]; first | done | with_reducible rfl), res2cH (by (simp only [go_sem, Nat.reduceEqDiff, Nat.reduceAdd, reduceIte, l1]; first | done | with_reducible rfl)) (by (simp only [go_sem, Nat.reduceEqDiff, Nat.reduceAdd, reduceIte, l2]; first | done | with_reducible rfl))⟩
    · rw [← hH5, ← hH4]; simp only [Hp.get_put]; rw [if_neg (by omega), if_neg (by omega)]; exact a3
  · obtain ⟨H3', hH3'⟩ : ∃ H3', H3.new (.cells [] ⟨0, 79, true⟩ false) = H3' := ⟨_, rfl⟩
    have hM3 := k3.1
    have x1 : H3'.get M = some (.cells [.slice none 0 0] ⟨0, 42, true⟩ false) := by
      rw [← hH3', Hp.get_new, if_neg (by omega)]; exact w1
    have x2 : H3'.get (M + 1) = some (.cells [.int .i64 0] ⟨0, 23, true⟩ false) := by
      rw [← hH3', Hp.get_new, if_neg (by omega)]; exact w2
    have s0 : storeO H3' 0 (.agg #[]) (.pointer (some ⟨H3.size, 0, none⟩)) = some (H3'.put H3.size (.cells [] ⟨0, 79, true⟩ false)) := by
      rw [← hH3']; simp only [storeO, Hp.get_new]; simp [Value.cells, setL]
    obtain ⟨H3q, hH3q⟩ : ∃ H3q, H3'.put H3.size (.cells [] ⟨0, 79, true⟩ false) = H3q := ⟨_, rfl⟩
    rw [hH3q] at s0
    have y1 : H3q.get M = some (.cells [.slice none 0 0] ⟨0, 42, true⟩ false) := by
      rw [← hH3q, Hp.get_put, if_neg (by omega)]; exact x1
    have y2 : H3q.get (M + 1) = some (.cells [.int .i64 0] ⟨0, 23, true⟩ false) := by
      rw [← hH3q, Hp.get_put, if_neg (by omega)]; exact x2
    obtain ⟨H4, hH4⟩ : ∃ H4, H3q.put M (.cells [.slice none 0 0] ⟨0, 42, true⟩ false) = H4 := ⟨_, rfl⟩
    obtain ⟨H5, hH5⟩ : ∃ H5, H4.put (M + 1) (.cells [.int .i64 20] ⟨0, 23, true⟩ false) = H5 := ⟨_, rfl⟩
    have s1 : storeO H3q 1 (.slice none 0 0) (.pointer (some ⟨M, 0, none⟩)) = some H4 := by
      rw [← hH4]; simp only [storeO, y1]; simp [Value.cells, isCell, setL]
    have s2 : storeO H4 1 (.int .i64 20) (.pointer (some ⟨M + 1, 0, none⟩)) = some H5 := by
      rw [← hH5, ← hH4]; simp only [storeO, Hp.get_put]; rw [if_neg (by omega), y2]; simp [Value.cells, isCell, setL]
    have l1 : loadO H5 (.pointer (some ⟨M, 0, none⟩)) = some (.slice none 0 0) := by
      rw [← hH5, ← hH4]; simp only [loadO, Hp.get_put]; rw [if_neg (by omega)]; simp
    have l2 : loadO H5 (.pointer (some ⟨M + 1, 0, none⟩)) = some (.int .i64 20) := by
      rw [← hH5]; simp only [loadO, Hp.get_put]; simp
    refine ⟨H5, ?_, .inr ⟨a1, K_call a31_eq (by simp [a31]) ?_⟩⟩
    · rw [← hH5, ← hH4, ← hH3q, ← hH3']; exact ((((k2.trans k3).trans (Keep.new _ _)).put (by omega) _).put (by omega) _).put (by omega) _
    · unfold a31
      repeat' (first
          | refine W.seq ?_
          | refine W.wo ?_
          | refine WO.nil ?_
          | (apply WO.ok; (case e => (simp only [go_sem, Nat.reduceEqDiff, Nat.reduceAdd, reduceIte, hM, hH1, hM1, hH2, a2]; first | done | with_reducible rfl)))
          | (apply WO.callpv; (case e => (simp only [go_sem, Nat.reduceEqDiff, Nat.reduceAdd, reduceIte, hM, hH1, hM1, hH2, a2]; first | done | with_reducible rfl)); (case c => (simp only [go_sem, Nat.reduceEqDiff, Nat.reduceAdd, reduceIte, hM, hH1, hM1, hH2, a2]; first | done | with_reducible rfl)))
          | (apply WO.defv; (case e => (simp only [go_sem, Nat.reduceEqDiff, Nat.reduceAdd, reduceIte, hM, hH1, hM1, hH2, a2]; first | done | with_reducible rfl)); (case hd => (simp only [go_sem, Nat.reduceEqDiff, Nat.reduceAdd, reduceIte, hM, hH1, hM1, hH2, a2]; first | done | with_reducible rfl))))
      refine leave_one (f := 49) (args := #[.pointer (some ⟨M, 0, none⟩), .pointer (some ⟨M + 1, 0, none⟩)]) (by (simp only [go_sem, Nat.reduceEqDiff, Nat.reduceAdd, reduceIte]; first | done | with_reducible rfl)) a49_eq (by simp [a49]) rfl ?_
      unfold a49
      repeat' (first
          | refine WO.nil ?_
          | (apply WO.ok; (case e => (simp only [go_sem, Nat.reduceEqDiff, Nat.reduceAdd, reduceIte, beq_self_eq_true, hH3', s0, hH3q, s1, s2]; first | done | with_reducible rfl)))
          | refine WS.seq ?_
          | refine WS.wo ?_
          | refine WS.skip ?_
          | (apply WS.branch; (case e => (simp only [go_sem, Nat.reduceEqDiff, Nat.reduceAdd, reduceIte, beq_self_eq_true, hH3', s0, hH3q, s1, s2]; first | done | with_reducible rfl)))
          | (apply WO.recover1; (case hd => (simp only [go_sem, Nat.reduceEqDiff, Nat.reduceAdd, reduceIte, beq_self_eq_true, hH3', s0, hH3q, s1, s2]; first | done | with_reducible rfl)); (case hp => (simp only [go_sem, Nat.reduceEqDiff, Nat.reduceAdd, reduceIte, beq_self_eq_true, hH3', s0, hH3q, s1, s2]; first | done | with_reducible rfl)))
          | with_reducible exact tf
          | with_reducible exact ft
          | intro _)
      exact ⟨.inl rfl, by (simp only [go_sem, Nat.reduceEqDiff, Nat.reduceAdd, reduceIte]; first | done | with_reducible rfl), .inr ⟨_, by (simp only [go_sem, Nat.reduceEqDiff, Nat.reduceAdd, reduceIte]; first | done | with_reducible rfl)⟩, by (simp only [go_sem, Nat.reduceEqDiff, Nat.reduceAdd, reduceIte]; first | done | with_reducible rfl), res2cH (by (simp only [go_sem, Nat.reduceEqDiff, Nat.reduceAdd, reduceIte, l1]; first | done | with_reducible rfl)) (by (simp only [go_sem, Nat.reduceEqDiff, Nat.reduceAdd, reduceIte, l2]; first | done | with_reducible rfl))⟩
end
end Go.Proofs.YtehbekgmemebjaaDoorEv
namespace Go.Proofs.YtehbekgmemebjaaDoorEv
open Go Go.RowKit
abbrev N55 : Ty := .pair .str (.pair (.int .i64) (.pair (.int .i64) (.pair (.int .i64) .unit)))
abbrev Nd : Type := ByteArray × Int × Int × Int × Unit
def toS (x : Nd) : S55 := ⟨x.1, x.2.1, x.2.2.1, x.2.2.2.1⟩
theorem rep55 {H : Hp} {Z : Nat → Prop} {x : N55.den} {cs : List Value} (h : Rep H Z N55 x cs) : cs = enc55 (toS x) := by
  obtain ⟨c, d, rfl, rfl, c2, d2, rfl, rfl, c3, d3, rfl, rfl, c4, d4, rfl, rfl, rfl⟩ := h
  rfl
theorem reps55 {H : Hp} {Z : Nat → Prop} : ∀ {l : List N55.den} {ps : List (List Value)}, All2 (Rep H Z N55) l ps → ps.flatten = (l.map toS).flatMap enc55
  | [], [], _ => rfl
  | x :: l, p :: ps, h => by
    rw [List.flatten_cons, List.map_cons, List.flatMap_cons, reps55 h.2, rep55 h.1]
theorem repv_sl {H : Hp} {Z : Nat → Prop} {t : Ty} {x : List t.den} {v : Value} : RepV H Z (.sl t) x v ↔ Rep H Z (.sl t) x [v] := by
  unfold RepV
  rw [if_neg (by simp [Ty.isAgg])]
end Go.Proofs.YtehbekgmemebjaaDoorEv
namespace Go.Proofs.YtehbekgmemebjaaDoorEv
open Go Go.RowKit
set_option linter.unusedVariables false
set_option linter.unusedSimpArgs false
def z55 : S55 := ⟨⟨#[]⟩, 0, 0, 0⟩
def rd_T55 (xs : List S55) (i : Int) : S55 := xs.getD i.toNat z55
theorem w64 {x : Int} (h : -9223372036854775808 ≤ x) (h' : x ≤ 9223372036854775807) : wrap64 x = x := by unfold wrap64; omega
inductive LetR (l : List S55) (o : List Int) : Int → Int → Int → Prop
  | leaf (n i : Int) (h0 : 0 ≤ n) (h1 : n < l.length) (hw : (rd_T55 l n).f0.toList ≠ []) (i0 : 0 ≤ i) (i1 : i < (rd_T55 l n).f0.size) : LetR l o n i (bt (rd_T55 l n).f0 i)
  | times (n i c : Int) (h0 : 0 ≤ n) (h1 : n < l.length) (hw : (rd_T55 l n).f0.toList = []) (ht : (rd_T55 l n).f3 > 0) (f0 : 0 ≤ (rd_T55 l n).f1) (f1 : (rd_T55 l n).f1 < o.length) (hz : rd o (rd_T55 l n).f1 ≠ 0)
      (h : LetR l o (rd_T55 l n).f1 (Int.tmod i (rd o (rd_T55 l n).f1)) c) : LetR l o n i c
  | left (n i c : Int) (h0 : 0 ≤ n) (h1 : n < l.length) (hw : (rd_T55 l n).f0.toList = []) (ht : ¬ (rd_T55 l n).f3 > 0) (f0 : 0 ≤ (rd_T55 l n).f1) (f1 : (rd_T55 l n).f1 < o.length) (hi : i < rd o (rd_T55 l n).f1)
      (h : LetR l o (rd_T55 l n).f1 i c) : LetR l o n i c
  | right (n i c : Int) (h0 : 0 ≤ n) (h1 : n < l.length) (hw : (rd_T55 l n).f0.toList = []) (ht : ¬ (rd_T55 l n).f3 > 0) (f0 : 0 ≤ (rd_T55 l n).f1) (f1 : (rd_T55 l n).f1 < o.length) (hi : ¬ i < rd o (rd_T55 l n).f1)
      (h : LetR l o (rd_T55 l n).f2 (wrap64 (i - rd o (rd_T55 l n).f1)) c) : LetR l o n i c
theorem lensF_spec : ∀ (rest : List S55) (done out : List Int), lensF done rest = some out → out.length = done.length + rest.length ∧ out.take done.length = done ∧ ∀ (j : Nat) (x : S55), rest[j]? = some x → ∃ v, stepL (out.take (done.length + j)) x = some v ∧ out[done.length + j]? = some v := by
  intro rest
  induction rest with
  | nil =>
    intro done out h
    simp only [lensF, Option.some.injEq] at h
    subst h
    exact ⟨by simp, by simp, fun j x hx => by simp at hx⟩
  | cons y r ih =>
    intro done out h
    simp only [lensF, Option.bind_eq_some_iff] at h
    obtain ⟨v, hv, h⟩ := h
    obtain ⟨a, b, c⟩ := ih (done ++ [v]) out h
    rw [List.length_append, List.length_singleton] at a b c
    have b2 : out.take done.length = done := by
      have := congrArg (List.take done.length) b
      rw [List.take_take, Nat.min_eq_left (by omega), List.take_left] at this
      exact this
    refine ⟨by simp only [List.length_cons]; omega, b2, fun j x hx => ?_⟩
    cases j with
    | zero =>
      simp only [List.getElem?_cons_zero, Option.some.injEq] at hx
      subst hx
      refine ⟨v, by rw [Nat.add_zero, b2]; exact hv, ?_⟩
      have := congrArg (fun l => l[done.length]?) b
      simp only [List.getElem?_take] at this
      rw [if_pos (by omega)] at this
      rw [Nat.add_zero, this]
      simp
    | succ j =>
      simp only [List.getElem?_cons_succ] at hx
      obtain ⟨v', p, q⟩ := c j x hx
      exact ⟨v', by rw [show done.length + (j + 1) = done.length + 1 + j by omega]; exact p, by rw [show done.length + (j + 1) = done.length + 1 + j by omega]; exact q⟩
theorem lensF_good : ∀ (rest : List S55) (done out : List Int), goodL done → lensF done rest = some out → goodL out := by
  intro rest
  induction rest with
  | nil =>
    intro done out hg h
    simp only [lensF, Option.some.injEq] at h
    subst h; exact hg
  | cons y r ih =>
    intro done out hg h
    simp only [lensF, Option.bind_eq_some_iff] at h
    obtain ⟨v, hv, h⟩ := h
    refine ih _ _ ?_ h
    intro z hz
    rcases List.mem_append.1 hz with hz | hz
    · exact hg z hz
    · rw [List.mem_singleton.1 hz]; exact stepL_good hg hv
structure Rope (l : List S55) (out : List Int) : Prop where
  le : l.length ≤ 4000
  len : out.length = l.length
  good : goodL out
  node : ∀ (j : Nat) (x : S55), l[j]? = some x → ∃ v, stepL (out.take j) x = some v ∧ out[j]? = some v
theorem rope_of {l : List S55} {out : List Int} (h : lens l = some out) : Rope l out := by
  unfold lens at h
  split at h
  · rename_i hl
    obtain ⟨a, _, c⟩ := lensF_spec l [] out h
    exact ⟨hl, by simpa using a, lensF_good l [] out (fun v hv => by cases hv) h, fun j x hx => by simpa using c j x hx⟩
  · cases h
theorem lensF_of : ∀ (rest : List S55) (done out : List Int), out.length = done.length + rest.length → out.take done.length = done → (∀ (j : Nat) (x : S55), rest[j]? = some x → ∃ v, stepL (out.take (done.length + j)) x = some v ∧ out[done.length + j]? = some v) → lensF done rest = some out := by
  intro rest
  induction rest with
  | nil =>
    intro done out a b _
    simp only [List.length_nil, Nat.add_zero] at a
    rw [← a, List.take_length] at b
    simp only [lensF, b]
  | cons y r ih =>
    intro done out a b c
    obtain ⟨v, p, q⟩ := c 0 y rfl
    rw [Nat.add_zero, b] at p
    rw [Nat.add_zero] at q
    simp only [lensF, p, Option.bind_some]
    refine ih (done ++ [v]) out (by simp only [List.length_cons] at a; simp; omega) ?_ fun j x hx => ?_
    · rw [List.length_append, List.length_singleton, List.take_add_one, b, q]; rfl
    · obtain ⟨v', p', q'⟩ := c (j + 1) x (by simpa using hx)
      rw [List.length_append, List.length_singleton]
      exact ⟨v', by rw [show done.length + 1 + j = done.length + (j + 1) by omega]; exact p', by rw [show done.length + 1 + j = done.length + (j + 1) by omega]; exact q'⟩
theorem rope_lens {l : List S55} {out : List Int} (h : Rope l out) : lens l = some out := by
  unfold lens
  rw [if_pos h.le]
  exact lensF_of l [] out (by simpa using h.len) rfl fun j x hx => by simpa using h.node j x hx
theorem rdT_at {l : List S55} {j : Nat} {x : S55} (h : l[j]? = some x) : rd_T55 l (j : Int) = x := by
  unfold rd_T55
  rw [Int.toNat_natCast, List.getD_eq_getElem?_getD, h]; rfl
theorem rd_at' {l : List Int} {j : Nat} {v : Int} (h : l[j]? = some v) : rd l (j : Int) = v := by
  unfold rd
  rw [Int.toNat_natCast, List.getD_eq_getElem?_getD, h]; rfl
theorem rd_take {l : List Int} {j : Nat} {i : Int} (h0 : 0 ≤ i) (h1 : i < (l.take j).length) : rd (l.take j) i = rd l i := by
  unfold rd
  have : i.toNat < (l.take j).length := by omega
  rw [List.getD_eq_getElem?_getD, List.getD_eq_getElem?_getD, List.getElem?_take, if_pos (by rw [List.length_take] at this; omega)]
theorem toList_size (s : ByteArray) : s.toList = [] ↔ s.size = 0 := by
  rw [ByteArray.toList_eq]
  obtain ⟨⟨l⟩⟩ := s
  show l = [] ↔ l.length = 0
  exact List.length_eq_zero_iff.symm
inductive NodeIs (out : List Int) (j : Nat) (x : S55) (v : Int) : Prop
  | leaf (h : x.f0.size ≠ 0) (hv : v = x.f0.size)
  | times (h : x.f0.size = 0) (ht : 1 ≤ x.f3) (h0 : 0 ≤ x.f1) (h1 : x.f1 < j) (h2 : x.f2 = 0) (hv : v = x.f3 * rd out x.f1)
  | pair (h : x.f0.size = 0) (ht : x.f3 = 0) (h0 : 0 ≤ x.f1) (h1 : x.f1 < j) (g0 : 0 ≤ x.f2) (g1 : x.f2 < j) (hv : v = rd out x.f1 + rd out x.f2)
theorem Rope.is {l : List S55} {out : List Int} (h : Rope l out) {j : Nat} {x : S55} (hx : l[j]? = some x) : ∃ v, out[j]? = some v ∧ 1 ≤ v ∧ v ≤ 1152921504606846976 ∧ NodeIs out j x v := by
  obtain ⟨v, hs, hv⟩ := h.node j x hx
  have hg := h.good v (List.mem_of_getElem? hv)
  refine ⟨v, hv, hg.1, hg.2, ?_⟩
  have hlen : (out.take j).length = j := by
    have := (List.getElem?_eq_some_iff.1 hv).1
    rw [List.length_take]; omega
  unfold stepL at hs
  split at hs
  · rename_i h0
    split at hs
    · rename_i h3
      split at hs
      · rename_i hc
        obtain ⟨a, b, c, d, e⟩ := hc
        cases hs
        refine .pair h0 h3 a (by omega) c (by omega) ?_
        rw [rd_take a b, rd_take c d]
      · cases hs
    · split at hs
      · rename_i hc
        obtain ⟨a, b, c, d, e⟩ := hc
        cases hs
        refine .times h0 a b (by omega) d ?_
        rw [rd_take b c]
      · cases hs
  · rename_i h0
    split at hs
    · cases hs; exact .leaf h0 rfl
    · cases hs
theorem LetR.exists {l : List S55} {out : List Int} (h : Rope l out) : ∀ (N j : Nat), j ≤ N → j < l.length → ∀ i : Int, 0 ≤ i → i < rd out (j : Int) → ∃ c, LetR l out (j : Int) i c := by
  intro N
  induction N with
  | zero =>
    intro j hj hl i i0 i1
    have hx : l[j]? = some l[j] := List.getElem?_eq_getElem hl
    obtain ⟨v, hv, v1, v2, hn⟩ := h.is hx
    have hr := rdT_at hx
    rw [rd_at' hv] at i1
    cases hn with
    | leaf h0 e => exact ⟨_, .leaf _ _ (by omega) (by omega) (by rw [hr]; intro hc; exact h0 ((toList_size _).1 hc)) i0 (by rw [hr]; omega)⟩
    | times h0 ht a b _ e => omega
    | pair h0 ht a b _ _ e => omega
  | succ N ih =>
    intro j hj hl i i0 i1
    have hx : l[j]? = some l[j] := List.getElem?_eq_getElem hl
    obtain ⟨v, hv, v1, v2, hn⟩ := h.is hx
    have hr := rdT_at hx
    rw [rd_at' hv] at i1
    have hlen := h.len
    cases hn with
    | leaf h0 e => exact ⟨_, .leaf _ _ (by omega) (by omega) (by rw [hr]; intro hc; exact h0 ((toList_size _).1 hc)) i0 (by rw [hr]; omega)⟩
    | times h0 ht a b _ e =>
      have hp := h.good.rd a (by omega)
      obtain ⟨c, hc⟩ := ih (l[j].f1.toNat) (by omega) (by omega) (Int.tmod i (rd out l[j].f1)) (Int.tmod_nonneg _ i0) (by
        rw [Int.toNat_of_nonneg a]
        exact Int.tmod_lt_of_pos _ (by omega))
      rw [Int.toNat_of_nonneg a] at hc
      refine ⟨c, .times _ _ _ (by omega) (by omega) (by rw [hr]; exact (toList_size _).2 h0) (by rw [hr]; omega) (by rw [hr]; exact a) (by rw [hr]; omega) (by rw [hr]; omega) ?_⟩
      rw [hr]; exact hc
    | pair h0 ht a b a' b' e =>
      have hp := h.good.rd a (by omega)
      by_cases hlt : i < rd out l[j].f1
      · obtain ⟨c, hc⟩ := ih (l[j].f1.toNat) (by omega) (by omega) i i0 (by rw [Int.toNat_of_nonneg a]; exact hlt)
        rw [Int.toNat_of_nonneg a] at hc
        refine ⟨c, .left _ _ _ (by omega) (by omega) (by rw [hr]; exact (toList_size _).2 h0) (by rw [hr]; omega) (by rw [hr]; exact a) (by rw [hr]; omega) (by rw [hr]; exact hlt) ?_⟩
        rw [hr]; exact hc
      · have hw : wrap64 (i - rd out l[j].f1) = i - rd out l[j].f1 := w64 (by omega) (by omega)
        obtain ⟨c, hc⟩ := ih (l[j].f2.toNat) (by omega) (by omega) (i - rd out l[j].f1) (by omega) (by rw [Int.toNat_of_nonneg a']; omega)
        rw [Int.toNat_of_nonneg a'] at hc
        refine ⟨c, .right _ _ _ (by omega) (by omega) (by rw [hr]; exact (toList_size _).2 h0) (by rw [hr]; omega) (by rw [hr]; exact a) (by rw [hr]; omega) (by rw [hr]; exact hlt) ?_⟩
        rw [hr, hw]; exact hc
theorem LetR.app {a r : List S55} {oa p : List Int} (hl : oa.length = a.length) {n i c : Int} (h : LetR a oa n i c) : LetR (a ++ r) (oa ++ p) n i c := by
  have hx : ∀ n : Int, 0 ≤ n → n < a.length → rd_T55 (a ++ r) n = rd_T55 a n := fun n h0 h1 => by
    unfold rd_T55
    rw [List.getD_eq_getElem?_getD, List.getD_eq_getElem?_getD, List.getElem?_append_left (by omega)]
  have ho : ∀ n : Int, 0 ≤ n → n < oa.length → rd (oa ++ p) n = rd oa n := fun n h0 h1 => by
    unfold rd
    rw [List.getD_eq_getElem?_getD, List.getD_eq_getElem?_getD, List.getElem?_append_left (by omega)]
  have hlt : ∀ n : Int, n < a.length → n < (a ++ r).length := fun n h => by rw [List.length_append]; omega
  have hlo : ∀ n : Int, n < oa.length → n < (oa ++ p).length := fun n h => by rw [List.length_append]; omega
  induction h with
  | leaf n i h0 h1 hw i0 i1 =>
    have := LetR.leaf (l := a ++ r) (o := oa ++ p) n i h0 (hlt n h1) (by rw [hx n h0 h1]; exact hw) i0 (by rw [hx n h0 h1]; exact i1)
    rw [hx n h0 h1] at this
    exact this
  | times n i c h0 h1 hw ht f0 f1 hz h ih =>
    refine .times _ _ _ h0 (hlt n h1) (by rw [hx n h0 h1]; exact hw) (by rw [hx n h0 h1]; exact ht) (by rw [hx n h0 h1]; exact f0) (by rw [hx n h0 h1]; exact hlo _ f1) (by rw [hx n h0 h1, ho _ f0 f1]; exact hz) ?_
    rw [hx n h0 h1, ho _ f0 f1]; exact ih
  | left n i c h0 h1 hw ht f0 f1 hi h ih =>
    refine .left _ _ _ h0 (hlt n h1) (by rw [hx n h0 h1]; exact hw) (by rw [hx n h0 h1]; exact ht) (by rw [hx n h0 h1]; exact f0) (by rw [hx n h0 h1]; exact hlo _ f1) (by rw [hx n h0 h1, ho _ f0 f1]; exact hi) ?_
    rw [hx n h0 h1]; exact ih
  | right n i c h0 h1 hw ht f0 f1 hi h ih =>
    refine .right _ _ _ h0 (hlt n h1) (by rw [hx n h0 h1]; exact hw) (by rw [hx n h0 h1]; exact ht) (by rw [hx n h0 h1]; exact f0) (by rw [hx n h0 h1]; exact hlo _ f1) (by rw [hx n h0 h1, ho _ f0 f1]; exact hi) ?_
    rw [hx n h0 h1, ho _ f0 f1]; exact ih
def lastL (o : List Int) : Int := rd o ((o.length : Int) - 1)
def wholeL (o : List Int) : Int := if o.length = 0 then 0 else lastL o
theorem wholeL_range {l : List S55} {o : List Int} (hl : lens l = some o) : 0 ≤ wholeL o ∧ wholeL o ≤ 1152921504606846976 := by
  have hr := rope_of hl
  unfold wholeL
  split
  · omega
  · have := hr.good.rd (i := (o.length : Int) - 1) (by omega) (by omega)
    unfold lastL; omega
theorem whole_pos {l : List S55} {o : List Int} (hl : lens l = some o) {i : Int} (h0 : 0 ≤ i) (h1 : i < wholeL o) : 0 < l.length ∧ i < rd o ((l.length : Int) - 1) := by
  have hr := rope_of hl
  have := hr.len
  unfold wholeL at h1
  split at h1
  · omega
  · unfold lastL at h1
    rw [this] at h1
    exact ⟨by omega, h1⟩
end Go.Proofs.YtehbekgmemebjaaDoorEv
