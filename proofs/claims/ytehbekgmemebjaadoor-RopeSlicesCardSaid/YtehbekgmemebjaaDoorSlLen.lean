import Derived.Test.YtehbekgmemebjaaDoorSlA
namespace Go.Proofs.YtehbekgmemebjaaDoorEv
open Go Go.RowKit
set_option linter.unusedVariables false
set_option linter.unusedSimpArgs false
attribute [local go_sem] evOp beq_true beq_false List.getElem?_toArray List.getElem?_cons_zero List.getElem?_cons_succ env_tmp env_const env_func env_global nx_get nx_getn nx_H nx_ds nx_df nx_pm get_enter one_ne_zero' zero_ne_one' if_false if_true ite_true ite_false List.getD_cons_zero List.getD_cons_succ Option.map_some Option.map_none Option.bind_some binO unO eqO List.map_toArray List.map_cons List.map_nil Array.append_empty Array.empty_append List.nil_append List.append_nil List.append_toArray List.cons_append ne_eq not_true_eq_false Bool.false_eq_true Bool.not_true Bool.not_false Bool.true_eq_false
structure S55 where
  f0 : ByteArray
  f1 : Int
  f2 : Int
  f3 : Int
def enc55 (x : S55) : List Value := [.string x.f0, .int .i64 x.f1, .int .i64 x.f2, .int .i64 x.f3]
def stepL (done : List Int) (x : S55) : Option Int :=
  if x.f0.size = 0 then
    if x.f3 = 0 then
      if 0 ≤ x.f1 ∧ x.f1 < done.length ∧ 0 ≤ x.f2 ∧ x.f2 < done.length ∧ rd done x.f1 + rd done x.f2 ≤ 1152921504606846976 then some (rd done x.f1 + rd done x.f2) else none
    else if 1 ≤ x.f3 ∧ 0 ≤ x.f1 ∧ x.f1 < done.length ∧ x.f2 = 0 ∧ x.f3 ≤ 1152921504606846976 / rd done x.f1 then some (x.f3 * rd done x.f1) else none
  else if x.f0.size ≤ 100 ∧ x.f1 = 0 ∧ x.f2 = 0 ∧ x.f3 = 0 ∧ checkS x.f0 = 0 then some x.f0.size else none
def lensF : List Int → List S55 → Option (List Int)
  | done, [] => some done
  | done, x :: r => (stepL done x).bind fun v => lensF (done ++ [v]) r
def lens (l : List S55) : Option (List Int) := if l.length ≤ 4000 then lensF [] l else none
def goodL (l : List Int) : Prop := ∀ v ∈ l, 1 ≤ v ∧ v ≤ 1152921504606846976
theorem goodL.rd {l : List Int} (h : goodL l) {i : Int} (h0 : 0 ≤ i) (h1 : i < l.length) : 1 ≤ rd l i ∧ rd l i ≤ 1152921504606846976 := by
  have hlt : i.toNat < l.length := by omega
  have : Go.Proofs.YtehbekgmemebjaaDoorEv.rd l i = l[i.toNat] := by
    simp [Go.Proofs.YtehbekgmemebjaaDoorEv.rd, hlt]
  rw [this]
  exact h _ (List.getElem_mem hlt)
theorem stepL_good {done : List Int} {x : S55} {v : Int} (hg : goodL done) (h : stepL done x = some v) : 1 ≤ v ∧ v ≤ 1152921504606846976 := by
  unfold stepL at h
  split at h
  · split at h
    · split at h
      · rename_i hc
        obtain ⟨a, b, c, d, e⟩ := hc
        have h1 := hg.rd a b
        have h2 := hg.rd c d
        cases h
        omega
      · cases h
    · split at h
      · rename_i hc
        obtain ⟨a, b, c, d, e⟩ := hc
        have h1 := hg.rd b c
        cases h
        have h2 := Int.mul_le_of_le_ediv (by omega) e
        have h3 : 1 * 1 ≤ x.f3 * rd done x.f1 := Int.mul_le_mul a h1.1 (by omega) (by omega)
        omega
      · cases h
  · split at h
    · cases h
      omega
    · cases h
theorem bCells_int (n : Nat) : (bCells #[.int .i64 0] (n * 1)).toList = List.replicate n (.int .i64 0) := by
  apply List.ext_getElem?
  intro j
  simp [bCells, List.getElem?_replicate]
  by_cases h : j < n
  · simp [h, Nat.mod_one]
  · simp [h]
section
variable {bs : Option Addr} {cp : Nat} {l0 : List S55} {H : Hp}
def Q50 (H : Hp) (l0 : List S55) (ex : AExit) (st : St) : Prop := st.ds = [] ∧ Keep H st.H ∧ ((ex = .ret ∧ ∃ out, lens l0 = some out ∧ st.get 2 = .slice (some ⟨H.size, 0, none⟩) l0.length l0.length ∧ st.H.get H.size = some (.cells (out.map (Value.int .i64)) ⟨0, 3, true⟩ false) ∧ H.size < st.H.size ∧ out.length = l0.length ∧ goodL out) ∨
  (ex = .pan (.iface 79 (.agg #[])) ∧ lens l0 = none))
theorem str_empty (s : ByteArray) : (s.toList == (⟨#[]⟩ : ByteArray).toList) = decide (s.size = 0) := by
  rw [ByteArray.toList_eq, ByteArray.toList_eq]
  obtain ⟨⟨l⟩⟩ := s
  cases l with
  | nil => rfl
  | cons x r =>
    have : (ByteArray.mk ⟨x :: r⟩).size = r.length + 1 := rfl
    rw [this]
    rfl
theorem enc_len (xs : List S55) : (xs.flatMap enc55).length = xs.length * 4 := by
  induction xs with
  | nil => simp
  | cons x r ih => rw [List.flatMap_cons, List.length_append, ih, List.length_cons, Nat.add_mul]; simp only [enc55, List.length_cons, List.length_nil]; omega
theorem enc_get : ∀ (xs : List S55) (j i : Nat), i < 4 → (xs.flatMap enc55)[j * 4 + i]? = (xs[j]?).bind fun x => (enc55 x)[i]? := by
  intro xs
  induction xs with
  | nil => intro j i h; simp
  | cons x r ih =>
    intro j i h
    rw [List.flatMap_cons, List.getElem?_append, show (enc55 x).length = 4 from rfl]
    cases j with
    | zero => rw [if_pos (by omega)]; simp
    | succ j =>
      rw [if_neg (by rw [Nat.add_mul]; omega), show (j + 1) * 4 + i - 4 = j * 4 + i by rw [Nat.add_mul]; omega, ih j i h]
      simp
structure LInv (H : Hp) (l0 : List S55) (bs : Option Addr) (cp : Nat) (done : List Int) (rest : List S55) (st : St) : Prop where
  len : l0.length = done.length + rest.length
  drop : l0.drop done.length = rest
  eq : lensF done rest = lensF [] l0
  good : goodL done
  g15 : st.get 15 = .slice bs l0.length cp
  g16 : st.get 16 = .int .i64 l0.length
  g17 : st.get 17 = .int .i64 done.length
  g3 : st.get 3 = .slice (some ⟨H.size, 0, none⟩) l0.length l0.length
  gd : st.ds = []
  keep : Keep H st.H
  lt : H.size < st.H.size
  out : st.H.get H.size = some (.cells (done.map (Value.int .i64) ++ List.replicate rest.length (.int .i64 0)) ⟨0, 3, true⟩ false)
structure RH (H Hc : Hp) (M : Nat) (done : List Int) (x : S55) (k : Nat) : Prop where
  keep : Keep H Hc
  lt : H.size < M
  sz : M + 1 < Hc.size
  out : Hc.get H.size = some (.cells (done.map (Value.int .i64) ++ List.replicate (k + 1) (.int .i64 0)) ⟨0, 3, true⟩ false)
  vi : Hc.get M = some (.cells [.int .i64 done.length] ⟨0, 3, true⟩ false)
  vx : Hc.get (M + 1) = some (.cells (enc55 x) ⟨0, 55, true⟩ false)
namespace RH
variable {H Hc Hd : Hp} {M : Nat} {done : List Int} {x : S55} {k : Nat}
theorem more (h : RH H Hc M done x k) (hk : Keep Hc Hd) : RH H Hd M done x k :=
  ⟨h.keep.trans hk, h.lt, by have := h.sz; have := hk.1; omega, (hk.2 _ (by have := h.sz; have := h.lt; omega)).trans h.out, (hk.2 _ (by have := h.sz; omega)).trans h.vi, (hk.2 _ (by have := h.sz; omega)).trans h.vx⟩
theorem li (h : RH H Hc M done x k) : loadO Hc (.pointer (some ⟨M, 0, none⟩)) = some (.int .i64 done.length) := by simp only [loadO, h.vi]; rfl
theorem lw (h : RH H Hc M done x k) : loadO Hc (.pointer (some ⟨M + 1, 0, none⟩)) = some (.string x.f0) := by simp only [loadO, h.vx]; rfl
theorem l1 (h : RH H Hc M done x k) : loadO Hc (.pointer (some ⟨M + 1, 1, none⟩)) = some (.int .i64 x.f1) := by simp only [loadO, h.vx]; rfl
theorem l2 (h : RH H Hc M done x k) : loadO Hc (.pointer (some ⟨M + 1, 2, none⟩)) = some (.int .i64 x.f2) := by simp only [loadO, h.vx]; rfl
theorem l3 (h : RH H Hc M done x k) : loadO Hc (.pointer (some ⟨M + 1, 3, none⟩)) = some (.int .i64 x.f3) := by simp only [loadO, h.vx]; rfl
theorem lo (h : RH H Hc M done x k) {j : Int} (h0 : 0 ≤ j) (h1 : j < done.length) : loadO Hc (.pointer (some ⟨H.size, 0 + j.toNat * 1, none⟩)) = some (.int .i64 (rd done j)) := by
  simp only [loadO, h.out]
  have hlt : j.toNat < done.length := by omega
  rw [Nat.zero_add, Nat.mul_one, List.getElem?_append_left (by simpa using hlt)]
  simp [rd, hlt]
theorem st (h : RH H Hc M done x k) (v : Int) : ∃ Hd, storeO Hc 1 (.int .i64 v) (.pointer (some ⟨H.size, 0 + ((done.length : Nat) : Int).toNat * 1, none⟩)) = some Hd ∧ Keep H Hd ∧ M + 1 < Hd.size ∧ Hd.get H.size = some (.cells ((done ++ [v]).map (Value.int .i64) ++ List.replicate k (.int .i64 0)) ⟨0, 3, true⟩ false) ∧ Hd.get M = some (.cells [.int .i64 done.length] ⟨0, 3, true⟩ false) ∧
    loadO Hd (.pointer (some ⟨H.size, 0 + ((done.length : Nat) : Int).toNat * 1, none⟩)) = some (.int .i64 v) ∧ loadO Hd (.pointer (some ⟨M, 0, none⟩)) = some (.int .i64 done.length) := by
  have hlt := h.lt
  have hs : setL (done.map (Value.int .i64) ++ List.replicate (k + 1) (.int .i64 0)) (0 + ((done.length : Nat) : Int).toNat * 1) [.int .i64 v] = (done ++ [v]).map (Value.int .i64) ++ List.replicate k (.int .i64 0) := by
    rw [Nat.zero_add, Nat.mul_one, Int.toNat_natCast]
    show List.set _ _ _ = _
    rw [List.set_append_right _ _ (by simp)]
    simp [List.replicate_succ]
  refine ⟨Hc.put H.size (.cells ((done ++ [v]).map (Value.int .i64) ++ List.replicate k (.int .i64 0)) ⟨0, 3, true⟩ false), ?_, h.keep.put (Nat.le_refl _) _, h.sz, by rw [Hp.get_put, if_pos rfl], by rw [Hp.get_put, if_neg (by omega)]; exact h.vi, ?_, ?_⟩
  · simp only [storeO, h.out]
    have hv : (Value.int .i64 v).cells = #[.int .i64 v] := rfl
    rw [if_pos (by refine ⟨?_, ?_, ?_, ?_⟩ <;> first | rfl | trivial | (simp; done) | (simp [Value.cells, isCell]; done) | (simp; omega)), hv, hs]
  · simp only [loadO, Hp.get_put, if_true]
    rw [Nat.zero_add, Nat.mul_one, Int.toNat_natCast]
    simp
  · simp only [loadO, Hp.get_put]
    rw [if_neg (by omega), h.vi]
    rfl
end RH
theorem lens_fail {l0 : List S55} {done : List Int} {x : S55} {r : List S55} (hn : ¬ 4000 < l0.length) (he : lensF done (x :: r) = lensF [] l0) (h : stepL done x = none) : lens l0 = none := by
  unfold lens
  rw [if_pos (by omega), ← he]
  simp only [lensF, h, Option.bind_none]
set_option maxHeartbeats 8000000 in
theorem W50 (hL : GG H) (hA : l0 = [] ∨ ∃ b o sp bc u ro rst, bs = some ⟨b, o, sp⟩ ∧ b < H.size ∧ H.get b = some (.cells bc u ro) ∧ bc.drop o = l0.flatMap enc55 ++ rst) : W K a50.body { t := enterT 0 #[.slice bs l0.length cp].toList .nil, H, ds := [], df := false, pm := none } (Q50 H l0) := by
  unfold a50
  by_cases hn : 4000 < l0.length
  · have hn1 : decide ((l0.length : Int) > 4000) = true := by simp; omega
    have hb : Instr.fill (fun x => (#[] : Array (Nat × Nat))[x]?) #[] [] = some #[] := rfl
    repeat' (first
        | refine W.seq ?_
        | refine W.wo ?_
        | refine WO.nil ?_
        | (apply WO.panicv; (case e => (simp only [go_sem, Nat.reduceEqDiff, Nat.reduceAdd, reduceIte, hn1, hb]; first | done | with_reducible rfl)))
        | (apply WO.ok; (case e => (simp only [go_sem, Nat.reduceEqDiff, Nat.reduceAdd, reduceIte, hn1, hb]; first | done | with_reducible rfl)))
        | (apply W.branch; (case e => (simp only [go_sem, Nat.reduceEqDiff, Nat.reduceAdd, reduceIte, hn1, hb]; first | done | with_reducible rfl)))
        | with_reducible exact tf
        | intro _)
    exact ⟨by (simp only [go_sem, Nat.reduceEqDiff, Nat.reduceAdd, reduceIte]; first | done | with_reducible rfl), by simp only [nx_H]; exact Keep.refl H, .inr ⟨by first | rfl | trace_state, by unfold lens; rw [if_neg (by omega)]⟩⟩
  · have hn1 : decide ((l0.length : Int) > 4000) = false := by simp; omega
    have hcap : (0 ≤ (l0.length : Int) ∧ (l0.length : Int) ≤ l0.length ∧ (l0.length : Int) * ((8 : Nat) : Int) ≤ 140737488355328 ∧ (l0.length : Int) ≤ 140737488355328) = True := by simp; omega
    have hb := bCells_int l0.length
    repeat' (first
        | refine W.seq ?_
        | refine W.wo ?_
        | refine WO.nil ?_
        | (apply WO.ok; (case e => (simp only [go_sem, Nat.reduceEqDiff, Nat.reduceAdd, reduceIte, hn1, hcap, hb, Int.toNat_natCast]; first | done | with_reducible rfl)))
        | refine W.skip ?_
        | refine W.block ?_
        | (apply W.branch; (case e => (simp only [go_sem, Nat.reduceEqDiff, Nat.reduceAdd, reduceIte, hn1, hcap, hb, Int.toNat_natCast]; first | done | with_reducible rfl)))
        | with_reducible exact ft
        | intro _)
    refine W.loop (fun m st => ∃ done rest, m = rest.length ∧ LInv H l0 bs cp done rest st) l0.length ⟨[], l0, rfl, by simp, rfl, rfl, fun v hv => (by cases hv), by (simp only [go_sem, Nat.reduceEqDiff, Nat.reduceAdd, reduceIte]; first | done | with_reducible rfl), by (simp only [go_sem, Nat.reduceEqDiff, Nat.reduceAdd, reduceIte]; first | done | with_reducible rfl), by (simp only [go_sem, Nat.reduceEqDiff, Nat.reduceAdd, reduceIte]; first | done | rfl), by (simp only [go_sem, Nat.reduceEqDiff, Nat.reduceAdd, reduceIte]; first | done | with_reducible rfl), by (simp only [go_sem, Nat.reduceEqDiff, Nat.reduceAdd, reduceIte]; first | done | with_reducible rfl), by simp only [nx_H]; exact Keep.new _ _, by simp only [nx_H, Hp.size_new]; omega, by simp only [nx_H, Hp.get_new, if_true]; rfl⟩ ?_
    rintro m st ⟨done, rest, rfl, ⟨ilen, idrop, ieq, igood, g15, g16, g17, g3, gd, ikeep, ilt, iout⟩⟩
    cases rest with
    | nil =>
      have hc : decide ((done.length : Int) < (l0.length : Int)) = false := by simp only [List.length_nil] at ilen; simp; omega
      repeat' (first
          | refine W.seq ?_
          | refine W.wo ?_
          | refine WO.nil ?_
          | (apply WO.ok; (case e => (simp only [go_sem, Nat.reduceEqDiff, Nat.reduceAdd, reduceIte, g15, g16, g17, g3, hc]; first | done | with_reducible rfl)))
          | refine W.ret ?_
          | refine W.exit ?_
          | (apply W.branch; (case e => (simp only [go_sem, Nat.reduceEqDiff, Nat.reduceAdd, reduceIte, g15, g16, g17, g3, hc]; first | done | with_reducible rfl)))
          | with_reducible exact ft
          | intro _)
      refine ⟨by (simp only [go_sem, Nat.reduceEqDiff, Nat.reduceAdd, reduceIte, gd]; first | done | with_reducible rfl), by simp only [nx_H]; exact ikeep, .inl ⟨rfl, done, ?_, by (simp only [go_sem, Nat.reduceEqDiff, Nat.reduceAdd, reduceIte]; first | done | with_reducible rfl), ?_, by simp only [nx_H]; exact ilt, by simp only [List.length_nil] at ilen; omega, igood⟩⟩
      · unfold lens
        rw [if_pos (by omega), ← ieq]; rfl
      · simp only [nx_H]
        rw [iout]
        simp
    | cons x r =>
      have hc : decide ((done.length : Int) < (l0.length : Int)) = true := by simp only [List.length_cons] at ilen; simp; omega
      have hix : (0 ≤ (done.length : Int) ∧ (done.length : Int) < ((l0.length : Nat) : Int)) = True := by simp only [List.length_cons] at ilen; simp; omega
      have hfail := lens_fail (x := x) hn ieq
      have hw : IntKind.i64.wrap ((done.length : Int) + 1) = ((done.length + 1 : Nat) : Int) := by
        simp only [List.length_cons] at ilen
        simp [IntKind.wrap, IntKind.bits, IntKind.signed]; omega
      have hxx : l0[done.length]? = some x := by
        have : (l0.drop done.length)[0]? = some x := by rw [idrop]; rfl
        simpa using this
      obtain ⟨b, o, sp, bc, u, ro, rst, rfl, hbA, hA, hdr⟩ : ∃ b o sp bc u ro rst, bs = some ⟨b, o, sp⟩ ∧ b < H.size ∧ H.get b = some (.cells bc u ro) ∧ bc.drop o = l0.flatMap enc55 ++ rst := by
        rcases hA with h0 | h0
        · rw [h0] at hxx; simp at hxx
        · exact h0
      have hld : loadAO st.H 4 (.pointer (some ⟨b, o + ((done.length : Nat) : Int).toNat * 4, none⟩)) = some (.agg #[.string x.f0, .int .i64 x.f1, .int .i64 x.f2, .int .i64 x.f3]) := by
        have h1 := enc_len l0
        have h2 : ∀ i, i < 4 → (l0.flatMap enc55)[done.length * 4 + i]? = (enc55 x)[i]? := fun i hi => by
          have := enc_get l0 done.length i hi
          rw [hxx] at this
          exact this
        have h3 : (l0.flatMap enc55).length = l0.length * 4 := h1
        obtain ⟨v1, v2⟩ := drop_sub (off := done.length * 4) (n := 4) hdr (by rw [h3]; simp only [List.length_cons] at ilen; omega) (by decide)
        simp only [loadAO, (ikeep.2 b hbA).trans hA, Int.toNat_natCast]
        rw [if_pos v1, v2]
        have h4 : ((l0.flatMap enc55).drop (done.length * 4)).take 4 = enc55 x := by
          apply List.ext_getElem?
          intro i
          rw [List.getElem?_take]
          split
          · rename_i hi; rw [List.getElem?_drop]; exact h2 i hi
          · rw [List.getElem?_eq_none (by simp [enc55]; omega)]
        rw [h4]
        rfl
      obtain ⟨M, hM⟩ : ∃ M, st.H.size = M := ⟨_, rfl⟩
      obtain ⟨H1, hH1⟩ : ∃ H1, st.H.new (.cells [.int .i64 0] ⟨0, 3, true⟩ false) = H1 := ⟨_, rfl⟩
      have hM1 : H1.size = M + 1 := by rw [← hH1, Hp.size_new, hM]
      obtain ⟨H2, hH2⟩ : ∃ H2, H1.new (.cells [.string ⟨#[]⟩, .int .i64 0, .int .i64 0, .int .i64 0] ⟨0, 55, true⟩ false) = H2 := ⟨_, rfl⟩
      obtain ⟨H3, hH3⟩ : ∃ H3, H2.put M (.cells [.int .i64 done.length] ⟨0, 3, true⟩ false) = H3 := ⟨_, rfl⟩
      obtain ⟨H4, hH4⟩ : ∃ H4, H3.put (M + 1) (.cells (enc55 x) ⟨0, 55, true⟩ false) = H4 := ⟨_, rfl⟩
      have hst1 : storeO H2 1 (.int .i64 done.length) (.pointer (some ⟨M, 0, none⟩)) = some H3 := by
        rw [← hH3]
        simp only [storeO, ← hH2, ← hH1, Hp.get_new, Hp.size_new, hM]
        rw [if_neg (by omega)]
        simp [Value.cells, isCell, setL]
      have hst2 : storeO H3 4 (.agg #[.string x.f0, .int .i64 x.f1, .int .i64 x.f2, .int .i64 x.f3]) (.pointer (some ⟨M + 1, 0, none⟩)) = some H4 := by
        rw [← hH4]
        simp only [storeO, ← hH3, ← hH2, ← hH1, Hp.get_put, Hp.get_new, Hp.size_new, hM]
        rw [if_neg (by omega)]
        simp [Value.cells, isCell, setL, enc55]
      have hlt : H.size < M := by rw [← hM]; exact ilt
      have R4 : RH H H4 M done x r.length := by
        refine ⟨?_, hlt, ?_, ?_, ?_, ?_⟩
        · rw [← hH4, ← hH3, ← hH2, ← hH1]
          exact (((ikeep.trans (Keep.new _ _)).trans (Keep.new _ _)).put (by omega) _).put (by omega) _
        · rw [← hH4, ← hH3, ← hH2]
          simp only [Hp.size_put, Hp.size_new, hM1]; omega
        · rw [← hH4, ← hH3, ← hH2, ← hH1]
          simp only [Hp.get_put, Hp.get_new, Hp.size_new, hM]
          rw [if_neg (by omega), if_neg (by omega), if_neg (by omega), if_neg (by omega), iout]
          rfl
        · rw [← hH4, ← hH3]
          simp only [Hp.get_put]
          rw [if_neg (by omega)]; simp
        · rw [← hH4]
          simp only [Hp.get_put, if_true]
      have fin : ∀ (v : Int) (st' : St), stepL done x = some v → st'.get 15 = .slice (some ⟨b, o, sp⟩) l0.length cp → st'.get 16 = .int .i64 l0.length → st'.get 17 = .int .i64 ((done.length + 1 : Nat) : Int) → st'.get 3 = .slice (some ⟨H.size, 0, none⟩) l0.length l0.length → st'.ds = [] → Keep H st'.H → M + 1 < st'.H.size →
          st'.H.get H.size = some (.cells ((done ++ [v]).map (Value.int .i64) ++ List.replicate r.length (.int .i64 0)) ⟨0, 3, true⟩ false) → ∃ m', m' < (x :: r).length ∧ ∃ done' rest', m' = rest'.length ∧ LInv H l0 (some ⟨b, o, sp⟩) cp done' rest' st' := by
        intro v st' hs a1 a2 a3 a4 a5 a6 a7 a8
        refine ⟨r.length, by simp, done ++ [v], r, rfl, ⟨?_, ?_, ?_, ?_, a1, a2, ?_, a4, a5, a6, by omega, a8⟩⟩
        · simp only [List.length_cons] at ilen
          simp only [List.length_append, List.length_singleton]; omega
        · have : l0.drop (done.length + 1) = (l0.drop done.length).drop 1 := by rw [List.drop_drop]
          rw [List.length_append, List.length_singleton, this, idrop]; rfl
        · rw [← ieq]; simp only [lensF, hs, Option.bind_some]
        · intro y hy
          rcases List.mem_append.1 hy with hy | hy
          · exact igood y hy
          · rw [List.mem_singleton.1 hy]; exact stepL_good igood hs
        · rw [List.length_append, List.length_singleton]; exact a3
      have hfl : Instr.fill (fun x => (#[] : Array (Nat × Nat))[x]?) #[] [] = some #[] := rfl
      have q0 := R4.lw
      have q1 := R4.l1
      have q2 := R4.l2
      have q3 := R4.l3
      have qi := R4.li
      repeat' (first
          | refine W.seq ?_
          | refine W.wo ?_
          | refine WO.nil ?_
          | (apply WO.ok; (case e => (simp only [go_sem, Nat.reduceEqDiff, Nat.reduceAdd, reduceIte, g15, g16, g17, g3, hc, hix, hld, hM, hH1, hM1, hH2, hst1, hst2]; first | done | with_reducible rfl)))
          | refine W.skip ?_
          | refine W.block ?_
          | (apply W.branch; (case e => (simp only [go_sem, Nat.reduceEqDiff, Nat.reduceAdd, reduceIte, g15, g16, g17, g3, hc, hix, hld, hM, hH1, hM1, hH2, hst1, hst2]; first | done | with_reducible rfl)))
          | with_reducible exact tf
          | intro _)
      by_cases z0 : x.f0.size = 0
      · have e0 : (!(x.f0.toList == (⟨#[]⟩ : ByteArray).toList)) = false := by rw [str_empty]; simp [z0]
        have h66 : ∀ k : Int, K 66 #[.int .i64 k, .pointer (some ⟨M, 0, none⟩)] H4 = some (.ret (.bool (decide (0 ≤ k) && decide (k < (done.length : Int)))) H4) := fun k => K66 k _ _ _ qi
        have ins : ∀ k : Int, (0 ≤ k ∧ k < (done.length : Int)) → (!(decide (0 ≤ k) && decide (k < (done.length : Int)))) = false := fun k h => by simp [h.1, h.2]
        have outs : ∀ k : Int, ¬ (0 ≤ k ∧ k < (done.length : Int)) → (!(decide (0 ≤ k) && decide (k < (done.length : Int)))) = true := fun k h => by
          rw [Bool.not_eq_true', Bool.and_eq_false_iff]
          by_cases h1 : 0 ≤ k
          · right; simp; omega
          · left; simp; omega
        have rng : ∀ k : Int, (0 ≤ k ∧ k < (done.length : Int)) → (0 ≤ k ∧ k < ((l0.length : Nat) : Int)) = True := fun k h => by simp only [List.length_cons] at ilen; simp; omega
        by_cases z3 : x.f3 = 0
        · have e3 : (x.f3 != 0) = false := by simp [z3]
          repeat' (first
              | refine W.seq ?_
              | refine W.wo ?_
              | refine WO.nil ?_
              | (apply WO.ok; (case e => (simp only [go_sem, Nat.reduceEqDiff, Nat.reduceAdd, reduceIte, q0, q1, q2, q3, qi, e0, e3]; first | done | with_reducible rfl)))
              | (apply W.branch; (case e => (simp only [go_sem, Nat.reduceEqDiff, Nat.reduceAdd, reduceIte, q0, q1, q2, q3, qi, e0, e3]; first | done | with_reducible rfl)))
              | with_reducible exact ft
              | intro _)
          by_cases i1 : 0 ≤ x.f1 ∧ x.f1 < (done.length : Int)
          · have c1 := ins _ i1
            by_cases i2 : 0 ≤ x.f2 ∧ x.f2 < (done.length : Int)
            · have c2 := ins _ i2
              have g1 := igood.rd i1.1 i1.2
              have g2 := igood.rd i2.1 i2.2
              have a1 := rng _ i1
              have a2 := rng _ i2
              have o1 := R4.lo i1.1 i1.2
              have o2 := R4.lo i2.1 i2.2
              have hws : IntKind.i64.wrap (rd done x.f1 + rd done x.f2) = rd done x.f1 + rd done x.f2 := by simp [IntKind.wrap, IntKind.bits, IntKind.signed]; omega
              obtain ⟨H6, hst, hk6, hs6, ho6, hv6, hl6, hi6⟩ := R4.st (rd done x.f1 + rd done x.f2)
              repeat' (first
                  | refine WO.nil ?_
                  | (apply WO.callv; (case e => (simp only [go_sem, Nat.reduceEqDiff, Nat.reduceAdd, reduceIte, q0, q1, q2, q3, qi, g3, h66, c1, c2]; first | done | with_reducible rfl)); (case c => (simp only [go_sem, Nat.reduceEqDiff, Nat.reduceAdd, reduceIte, q0, q1, q2, q3, qi, g3, h66, c1, c2]; first | done | with_reducible rfl)))
                  | (apply WO.ok; (case e => (simp only [go_sem, Nat.reduceEqDiff, Nat.reduceAdd, reduceIte, q0, q1, q2, q3, qi, g3, h66, c1, c2]; first | done | with_reducible rfl)))
                  | (apply WO.guardF; (case hj => (simp only [go_sem, Nat.reduceEqDiff, Nat.reduceAdd, reduceIte, q0, q1, q2, q3, qi, g3, h66, c1, c2]; first | done | with_reducible rfl)))
                  | refine W.skip ?_
                  | (apply W.branch; (case e => (simp only [go_sem, Nat.reduceEqDiff, Nat.reduceAdd, reduceIte, q0, q1, q2, q3, qi, g3, h66, c1, c2]; first | done | with_reducible rfl)))
                  | with_reducible exact ft
                  | intro _)
              apply W.wd
              case hg => kernel_rfl
              by_cases hb2 : rd done x.f1 + rd done x.f2 ≤ 1152921504606846976
              · have hbig : decide (rd done x.f1 + rd done x.f2 > 1152921504606846976) = false := by simp; omega
                have hs : stepL done x = some (rd done x.f1 + rd done x.f2) := by unfold stepL; rw [if_pos z0, if_pos z3, if_pos ⟨i1.1, i1.2, i2.1, i2.2, hb2⟩]
                repeat' (first
                    | refine W.seq ?_
                    | refine W.wo ?_
                    | refine WO.nil ?_
                    | (apply WO.ok; (case e => (simp only [go_sem, Nat.reduceEqDiff, Nat.reduceAdd, reduceIte, q0, q1, q2, q3, qi, g3, g17, hix, a1, a2, o1, o2, hws, hst, hl6, hi6, hbig, hw]; first | done | with_reducible rfl)))
                    | refine W.skip ?_
                    | (apply W.branch; (case e => (simp only [go_sem, Nat.reduceEqDiff, Nat.reduceAdd, reduceIte, q0, q1, q2, q3, qi, g3, g17, hix, a1, a2, o1, o2, hws, hst, hl6, hi6, hbig, hw]; first | done | with_reducible rfl)))
                    | refine WD.nil ?_
                    | (apply WD.ok; (case e => (simp only [go_sem, Nat.reduceEqDiff, Nat.reduceAdd, reduceIte, q0, q1, q2, q3, qi, g3, g17, hix, a1, a2, o1, o2, hws, hst, hl6, hi6, hbig, hw]; first | done | with_reducible rfl)); (case hi => first | trivial | (simp only [nx_H]; done)); (case hc => first | rfl | (simp only [eqV, beq_self_eq_true, Bool.and_self, Bool.or_true, Bool.and_true, Option.isSome_some]; done)))
                    | with_reducible exact ft
                    | intro _)
                exact fin _ _ hs (by (simp only [go_sem, Nat.reduceEqDiff, Nat.reduceAdd, reduceIte, g15]; first | done | with_reducible rfl)) (by (simp only [go_sem, Nat.reduceEqDiff, Nat.reduceAdd, reduceIte, g16]; first | done | with_reducible rfl)) (by (simp only [go_sem, Nat.reduceEqDiff, Nat.reduceAdd, reduceIte]; first | done | with_reducible rfl)) (by (simp only [go_sem, Nat.reduceEqDiff, Nat.reduceAdd, reduceIte, g3]; first | done | with_reducible rfl)) (by (simp only [go_sem, Nat.reduceEqDiff, Nat.reduceAdd, reduceIte, gd]; first | done | with_reducible rfl)) (by simp only [nx_H]; exact hk6) (by simp only [nx_H]; exact hs6) (by simp only [nx_H]; exact ho6)
              · have hbig : decide (rd done x.f1 + rd done x.f2 > 1152921504606846976) = true := by simp; omega
                repeat' (first
                    | refine W.seq ?_
                    | refine W.wo ?_
                    | refine WO.nil ?_
                    | (apply WO.panicv; (case e => (simp only [go_sem, Nat.reduceEqDiff, Nat.reduceAdd, reduceIte, q0, q1, q2, q3, qi, g3, g17, hix, a1, a2, o1, o2, hws, hst, hl6, hi6, hbig, hw, hfl]; first | done | with_reducible rfl)))
                    | (apply WO.ok; (case e => (simp only [go_sem, Nat.reduceEqDiff, Nat.reduceAdd, reduceIte, q0, q1, q2, q3, qi, g3, g17, hix, a1, a2, o1, o2, hws, hst, hl6, hi6, hbig, hw, hfl]; first | done | with_reducible rfl)))
                    | (apply W.branch; (case e => (simp only [go_sem, Nat.reduceEqDiff, Nat.reduceAdd, reduceIte, q0, q1, q2, q3, qi, g3, g17, hix, a1, a2, o1, o2, hws, hst, hl6, hi6, hbig, hw, hfl]; first | done | with_reducible rfl)))
                    | refine WD.nil ?_
                    | (apply WD.ok; (case e => (simp only [go_sem, Nat.reduceEqDiff, Nat.reduceAdd, reduceIte, q0, q1, q2, q3, qi, g3, g17, hix, a1, a2, o1, o2, hws, hst, hl6, hi6, hbig, hw, hfl]; first | done | with_reducible rfl)); (case hi => first | trivial | (simp only [nx_H]; done)); (case hc => first | rfl | (simp only [eqV, beq_self_eq_true, Bool.and_self, Bool.or_true, Bool.and_true, Option.isSome_some]; done)))
                    | with_reducible exact tf
                    | intro _)
                exact ⟨by (simp only [go_sem, Nat.reduceEqDiff, Nat.reduceAdd, reduceIte, gd]; first | done | with_reducible rfl), by simp only [nx_H]; exact hk6, .inr ⟨rfl, hfail (by unfold stepL; rw [if_pos z0, if_pos z3, if_neg (by intro h; exact hb2 h.2.2.2.2)])⟩⟩
            · have c2 := outs _ i2
              repeat' (first
                  | refine W.wo ?_
                  | refine WO.nil ?_
                  | (apply WO.callv; (case e => (simp only [go_sem, Nat.reduceEqDiff, Nat.reduceAdd, reduceIte, q0, q1, q2, q3, qi, g3, h66, c1, c2, hfl]; first | done | with_reducible rfl)); (case c => (simp only [go_sem, Nat.reduceEqDiff, Nat.reduceAdd, reduceIte, q0, q1, q2, q3, qi, g3, h66, c1, c2, hfl]; first | done | with_reducible rfl)))
                  | (apply WO.panicv; (case e => (simp only [go_sem, Nat.reduceEqDiff, Nat.reduceAdd, reduceIte, q0, q1, q2, q3, qi, g3, h66, c1, c2, hfl]; first | done | with_reducible rfl)))
                  | (apply WO.ok; (case e => (simp only [go_sem, Nat.reduceEqDiff, Nat.reduceAdd, reduceIte, q0, q1, q2, q3, qi, g3, h66, c1, c2, hfl]; first | done | with_reducible rfl)))
                  | (apply WO.guardF; (case hj => (simp only [go_sem, Nat.reduceEqDiff, Nat.reduceAdd, reduceIte, q0, q1, q2, q3, qi, g3, h66, c1, c2, hfl]; first | done | with_reducible rfl)))
                  | (apply W.branch; (case e => (simp only [go_sem, Nat.reduceEqDiff, Nat.reduceAdd, reduceIte, q0, q1, q2, q3, qi, g3, h66, c1, c2, hfl]; first | done | with_reducible rfl)))
                  | with_reducible exact tf
                  | with_reducible exact ft
                  | intro _)
              exact ⟨by (simp only [go_sem, Nat.reduceEqDiff, Nat.reduceAdd, reduceIte, gd]; first | done | with_reducible rfl), by simp only [nx_H]; exact R4.keep, .inr ⟨rfl, hfail (by unfold stepL; rw [if_pos z0, if_pos z3, if_neg (by intro h; exact i2 ⟨h.2.2.1, h.2.2.2.1⟩)])⟩⟩
          · have c1 := outs _ i1
            repeat' (first
                | refine W.wo ?_
                | refine WO.nil ?_
                | (apply WO.callv; (case e => (simp only [go_sem, Nat.reduceEqDiff, Nat.reduceAdd, reduceIte, q0, q1, q2, q3, qi, g3, h66, c1, hfl]; first | done | with_reducible rfl)); (case c => (simp only [go_sem, Nat.reduceEqDiff, Nat.reduceAdd, reduceIte, q0, q1, q2, q3, qi, g3, h66, c1, hfl]; first | done | with_reducible rfl)))
                | (apply WO.panicv; (case e => (simp only [go_sem, Nat.reduceEqDiff, Nat.reduceAdd, reduceIte, q0, q1, q2, q3, qi, g3, h66, c1, hfl]; first | done | with_reducible rfl)))
                | (apply WO.ok; (case e => (simp only [go_sem, Nat.reduceEqDiff, Nat.reduceAdd, reduceIte, q0, q1, q2, q3, qi, g3, h66, c1, hfl]; first | done | with_reducible rfl)))
                | (apply WO.guardF; (case hj => (simp only [go_sem, Nat.reduceEqDiff, Nat.reduceAdd, reduceIte, q0, q1, q2, q3, qi, g3, h66, c1, hfl]; first | done | with_reducible rfl)))
                | (apply W.branch; (case e => (simp only [go_sem, Nat.reduceEqDiff, Nat.reduceAdd, reduceIte, q0, q1, q2, q3, qi, g3, h66, c1, hfl]; first | done | with_reducible rfl)))
                | with_reducible exact tf
                | intro _)
            exact ⟨by (simp only [go_sem, Nat.reduceEqDiff, Nat.reduceAdd, reduceIte, gd]; first | done | with_reducible rfl), by simp only [nx_H]; exact R4.keep, .inr ⟨rfl, hfail (by unfold stepL; rw [if_pos z0, if_pos z3, if_neg (by intro h; exact i1 ⟨h.1, h.2.1⟩)])⟩⟩
        · have e3 : (x.f3 != 0) = true := by simp [z3]
          repeat' (first
              | refine W.seq ?_
              | refine W.wo ?_
              | refine WO.nil ?_
              | (apply WO.ok; (case e => (simp only [go_sem, Nat.reduceEqDiff, Nat.reduceAdd, reduceIte, q0, q1, q2, q3, qi, e0, e3]; first | done | with_reducible rfl)))
              | (apply W.branch; (case e => (simp only [go_sem, Nat.reduceEqDiff, Nat.reduceAdd, reduceIte, q0, q1, q2, q3, qi, e0, e3]; first | done | with_reducible rfl)))
              | with_reducible exact tf
              | with_reducible exact ft
              | intro _)
          apply W.wq
          case hg => kernel_rfl
          by_cases t1 : x.f3 < 1
          · have b1 : decide (x.f3 < 1) = true := decide_eq_true t1
            repeat' (first
                | refine W.wo ?_
                | (apply WO.panicv; (case e => (simp only [go_sem, Nat.reduceEqDiff, Nat.reduceAdd, reduceIte, q0, q1, q2, q3, qi, g3, b1, hfl]; first | done | with_reducible rfl)))
                | (apply WO.ok; (case e => (simp only [go_sem, Nat.reduceEqDiff, Nat.reduceAdd, reduceIte, q0, q1, q2, q3, qi, g3, b1, hfl]; first | done | with_reducible rfl)))
                | (apply W.branch; (case e => (simp only [go_sem, Nat.reduceEqDiff, Nat.reduceAdd, reduceIte, q0, q1, q2, q3, qi, g3, b1, hfl]; first | done | with_reducible rfl)))
                | refine WD.nil ?_
                | (apply WD.ok; (case e => (simp only [go_sem, Nat.reduceEqDiff, Nat.reduceAdd, reduceIte, q0, q1, q2, q3, qi, g3, b1, hfl]; first | done | with_reducible rfl)); (case hi => first | trivial | (simp only [nx_H]; done)); (case hc => first | rfl | (simp only [eqV, beq_self_eq_true, Bool.and_self, Bool.or_true, Bool.and_true, Option.isSome_some]; done)))
                | (apply WD.guardF; (case hj => (simp only [go_sem, Nat.reduceEqDiff, Nat.reduceAdd, reduceIte, q0, q1, q2, q3, qi, g3, b1, hfl]; first | done | with_reducible rfl)); (case hi => first | trivial | (simp only [nx_H]; done)))
                | with_reducible exact tf
                | intro _)
            exact ⟨by (simp only [go_sem, Nat.reduceEqDiff, Nat.reduceAdd, reduceIte, gd]; first | done | with_reducible rfl), by simp only [nx_H]; exact R4.keep, .inr ⟨rfl, hfail (by unfold stepL; rw [if_pos z0, if_neg z3, if_neg (by intro h; omega)])⟩⟩
          have b1 : decide (x.f3 < 1) = false := decide_eq_false t1
          by_cases i1 : 0 ≤ x.f1 ∧ x.f1 < (done.length : Int)
          · have c1 := ins _ i1
            have g1 := igood.rd i1.1 i1.2
            have a1 := rng _ i1
            have o1 := R4.lo i1.1 i1.2
            have hb0 : (rd done x.f1 = 0) = False := by simp; omega
            have htd : Int.tdiv 1152921504606846976 (rd done x.f1) = 1152921504606846976 / rd done x.f1 := Int.tdiv_eq_ediv_of_nonneg (by omega)
            have hq1 : 0 ≤ 1152921504606846976 / rd done x.f1 := Int.ediv_nonneg (by omega) (by omega)
            have hq2 : 1152921504606846976 / rd done x.f1 ≤ 1152921504606846976 := Int.ediv_le_self _ (by omega)
            have hwq : IntKind.i64.wrap (1152921504606846976 / rd done x.f1) = 1152921504606846976 / rd done x.f1 := by
              generalize 1152921504606846976 / rd done x.f1 = q at hq1 hq2
              simp [IntKind.wrap, IntKind.bits, IntKind.signed]; omega
            by_cases t2 : x.f2 = 0
            · have b2 : (x.f2 != 0) = false := by simp [t2]
              by_cases t3 : x.f3 ≤ 1152921504606846976 / rd done x.f1
              · have b3 : decide (x.f3 > 1152921504606846976 / rd done x.f1) = false := by simp; omega
                have hs : stepL done x = some (x.f3 * rd done x.f1) := by unfold stepL; rw [if_pos z0, if_neg z3, if_pos ⟨by omega, i1.1, i1.2, t2, t3⟩]
                have hsg := stepL_good igood hs
                have hwm : IntKind.i64.wrap (x.f3 * rd done x.f1) = x.f3 * rd done x.f1 := by
                  generalize x.f3 * rd done x.f1 = q at hsg
                  simp [IntKind.wrap, IntKind.bits, IntKind.signed]; omega
                obtain ⟨H6, hst, hk6, hs6, ho6, hv6, hl6, hi6⟩ := R4.st (x.f3 * rd done x.f1)
                have hbig : decide (x.f3 * rd done x.f1 > 1152921504606846976) = false := by simp; omega
                repeat' (first
                    | refine W.skip ?_
                    | (apply W.branch; (case e => (simp only [go_sem, Nat.reduceEqDiff, Nat.reduceAdd, reduceIte, q0, q1, q2, q3, qi, g3, h66, b1, c1, b2, b3, a1, o1, hb0, htd, hwq]; first | done | with_reducible rfl)))
                    | refine WD.nil ?_
                    | (apply WD.callv; (case e => (simp only [go_sem, Nat.reduceEqDiff, Nat.reduceAdd, reduceIte, q0, q1, q2, q3, qi, g3, h66, b1, c1, b2, b3, a1, o1, hb0, htd, hwq]; first | done | with_reducible rfl)); (case c => (simp only [go_sem, Nat.reduceEqDiff, Nat.reduceAdd, reduceIte, q0, q1, q2, q3, qi, g3, h66, b1, c1, b2, b3, a1, o1, hb0, htd, hwq]; first | done | with_reducible rfl)); (case hi => first | trivial | (simp only [nx_H]; done)); (case hc => rfl))
                    | (apply WD.ok; (case e => (simp only [go_sem, Nat.reduceEqDiff, Nat.reduceAdd, reduceIte, q0, q1, q2, q3, qi, g3, h66, b1, c1, b2, b3, a1, o1, hb0, htd, hwq]; first | done | with_reducible rfl)); (case hi => first | trivial | (simp only [nx_H]; done)); (case hc => first | rfl | (simp only [eqV, beq_self_eq_true, Bool.and_self, Bool.or_true, Bool.and_true, Option.isSome_some]; done)))
                    | (apply WD.guardF; (case hj => (simp only [go_sem, Nat.reduceEqDiff, Nat.reduceAdd, reduceIte, q0, q1, q2, q3, qi, g3, h66, b1, c1, b2, b3, a1, o1, hb0, htd, hwq]; first | done | with_reducible rfl)); (case hi => first | trivial | (simp only [nx_H]; done)))
                    | with_reducible exact ft
                    | intro _)
                apply W.wd
                case hg => kernel_rfl
                repeat' (first
                    | refine W.seq ?_
                    | refine W.wo ?_
                    | refine WO.nil ?_
                    | (apply WO.ok; (case e => (simp only [go_sem, Nat.reduceEqDiff, Nat.reduceAdd, reduceIte, q0, q1, q2, q3, qi, g3, g17, hix, a1, o1, hwm, hst, hl6, hi6, hbig, hw]; first | done | with_reducible rfl)))
                    | refine W.skip ?_
                    | (apply W.branch; (case e => (simp only [go_sem, Nat.reduceEqDiff, Nat.reduceAdd, reduceIte, q0, q1, q2, q3, qi, g3, g17, hix, a1, o1, hwm, hst, hl6, hi6, hbig, hw]; first | done | with_reducible rfl)))
                    | refine WD.nil ?_
                    | (apply WD.ok; (case e => (simp only [go_sem, Nat.reduceEqDiff, Nat.reduceAdd, reduceIte, q0, q1, q2, q3, qi, g3, g17, hix, a1, o1, hwm, hst, hl6, hi6, hbig, hw]; first | done | with_reducible rfl)); (case hi => first | trivial | (simp only [nx_H]; done)); (case hc => first | rfl | (simp only [eqV, beq_self_eq_true, Bool.and_self, Bool.or_true, Bool.and_true, Option.isSome_some]; done)))
                    | with_reducible exact ft
                    | intro _)
                exact fin _ _ hs (by (simp only [go_sem, Nat.reduceEqDiff, Nat.reduceAdd, reduceIte, g15]; first | done | with_reducible rfl)) (by (simp only [go_sem, Nat.reduceEqDiff, Nat.reduceAdd, reduceIte, g16]; first | done | with_reducible rfl)) (by (simp only [go_sem, Nat.reduceEqDiff, Nat.reduceAdd, reduceIte]; first | done | with_reducible rfl)) (by (simp only [go_sem, Nat.reduceEqDiff, Nat.reduceAdd, reduceIte, g3]; first | done | with_reducible rfl)) (by (simp only [go_sem, Nat.reduceEqDiff, Nat.reduceAdd, reduceIte, gd]; first | done | with_reducible rfl)) (by simp only [nx_H]; exact hk6) (by simp only [nx_H]; exact hs6) (by simp only [nx_H]; exact ho6)
              · have b3 : decide (x.f3 > 1152921504606846976 / rd done x.f1) = true := by simp; omega
                repeat' (first
                    | refine W.wo ?_
                    | (apply WO.panicv; (case e => (simp only [go_sem, Nat.reduceEqDiff, Nat.reduceAdd, reduceIte, q0, q1, q2, q3, qi, g3, h66, b1, c1, b2, b3, a1, o1, hb0, htd, hwq, hfl]; first | done | with_reducible rfl)))
                    | (apply WO.ok; (case e => (simp only [go_sem, Nat.reduceEqDiff, Nat.reduceAdd, reduceIte, q0, q1, q2, q3, qi, g3, h66, b1, c1, b2, b3, a1, o1, hb0, htd, hwq, hfl]; first | done | with_reducible rfl)))
                    | (apply W.branch; (case e => (simp only [go_sem, Nat.reduceEqDiff, Nat.reduceAdd, reduceIte, q0, q1, q2, q3, qi, g3, h66, b1, c1, b2, b3, a1, o1, hb0, htd, hwq, hfl]; first | done | with_reducible rfl)))
                    | refine WD.nil ?_
                    | (apply WD.callv; (case e => (simp only [go_sem, Nat.reduceEqDiff, Nat.reduceAdd, reduceIte, q0, q1, q2, q3, qi, g3, h66, b1, c1, b2, b3, a1, o1, hb0, htd, hwq, hfl]; first | done | with_reducible rfl)); (case c => (simp only [go_sem, Nat.reduceEqDiff, Nat.reduceAdd, reduceIte, q0, q1, q2, q3, qi, g3, h66, b1, c1, b2, b3, a1, o1, hb0, htd, hwq, hfl]; first | done | with_reducible rfl)); (case hi => first | trivial | (simp only [nx_H]; done)); (case hc => rfl))
                    | (apply WD.ok; (case e => (simp only [go_sem, Nat.reduceEqDiff, Nat.reduceAdd, reduceIte, q0, q1, q2, q3, qi, g3, h66, b1, c1, b2, b3, a1, o1, hb0, htd, hwq, hfl]; first | done | with_reducible rfl)); (case hi => first | trivial | (simp only [nx_H]; done)); (case hc => first | rfl | (simp only [eqV, beq_self_eq_true, Bool.and_self, Bool.or_true, Bool.and_true, Option.isSome_some]; done)))
                    | (apply WD.guardF; (case hj => (simp only [go_sem, Nat.reduceEqDiff, Nat.reduceAdd, reduceIte, q0, q1, q2, q3, qi, g3, h66, b1, c1, b2, b3, a1, o1, hb0, htd, hwq, hfl]; first | done | with_reducible rfl)); (case hi => first | trivial | (simp only [nx_H]; done)))
                    | with_reducible exact tf
                    | with_reducible exact ft
                    | intro _)
                exact ⟨by (simp only [go_sem, Nat.reduceEqDiff, Nat.reduceAdd, reduceIte, gd]; first | done | with_reducible rfl), by simp only [nx_H]; exact R4.keep, .inr ⟨rfl, hfail (by unfold stepL; rw [if_pos z0, if_neg z3, if_neg (by intro h; exact t3 h.2.2.2.2)])⟩⟩
            · have b2 : (x.f2 != 0) = true := by simp [t2]
              repeat' (first
                  | refine W.wo ?_
                  | (apply WO.panicv; (case e => (simp only [go_sem, Nat.reduceEqDiff, Nat.reduceAdd, reduceIte, q0, q1, q2, q3, qi, g3, h66, b1, c1, b2, hfl]; first | done | with_reducible rfl)))
                  | (apply WO.ok; (case e => (simp only [go_sem, Nat.reduceEqDiff, Nat.reduceAdd, reduceIte, q0, q1, q2, q3, qi, g3, h66, b1, c1, b2, hfl]; first | done | with_reducible rfl)))
                  | (apply W.branch; (case e => (simp only [go_sem, Nat.reduceEqDiff, Nat.reduceAdd, reduceIte, q0, q1, q2, q3, qi, g3, h66, b1, c1, b2, hfl]; first | done | with_reducible rfl)))
                  | refine WD.nil ?_
                  | (apply WD.callv; (case e => (simp only [go_sem, Nat.reduceEqDiff, Nat.reduceAdd, reduceIte, q0, q1, q2, q3, qi, g3, h66, b1, c1, b2, hfl]; first | done | with_reducible rfl)); (case c => (simp only [go_sem, Nat.reduceEqDiff, Nat.reduceAdd, reduceIte, q0, q1, q2, q3, qi, g3, h66, b1, c1, b2, hfl]; first | done | with_reducible rfl)); (case hi => first | trivial | (simp only [nx_H]; done)); (case hc => rfl))
                  | (apply WD.ok; (case e => (simp only [go_sem, Nat.reduceEqDiff, Nat.reduceAdd, reduceIte, q0, q1, q2, q3, qi, g3, h66, b1, c1, b2, hfl]; first | done | with_reducible rfl)); (case hi => first | trivial | (simp only [nx_H]; done)); (case hc => first | rfl | (simp only [eqV, beq_self_eq_true, Bool.and_self, Bool.or_true, Bool.and_true, Option.isSome_some]; done)))
                  | (apply WD.guardF; (case hj => (simp only [go_sem, Nat.reduceEqDiff, Nat.reduceAdd, reduceIte, q0, q1, q2, q3, qi, g3, h66, b1, c1, b2, hfl]; first | done | with_reducible rfl)); (case hi => first | trivial | (simp only [nx_H]; done)))
                  | with_reducible exact tf
                  | with_reducible exact ft
                  | intro _)
              exact ⟨by (simp only [go_sem, Nat.reduceEqDiff, Nat.reduceAdd, reduceIte, gd]; first | done | with_reducible rfl), by simp only [nx_H]; exact R4.keep, .inr ⟨rfl, hfail (by unfold stepL; rw [if_pos z0, if_neg z3, if_neg (by intro h; exact t2 h.2.2.2.1)])⟩⟩
          · have c1 := outs _ i1
            repeat' (first
                | refine W.wo ?_
                | (apply WO.panicv; (case e => (simp only [go_sem, Nat.reduceEqDiff, Nat.reduceAdd, reduceIte, q0, q1, q2, q3, qi, g3, h66, b1, c1, hfl]; first | done | with_reducible rfl)))
                | (apply WO.ok; (case e => (simp only [go_sem, Nat.reduceEqDiff, Nat.reduceAdd, reduceIte, q0, q1, q2, q3, qi, g3, h66, b1, c1, hfl]; first | done | with_reducible rfl)))
                | (apply W.branch; (case e => (simp only [go_sem, Nat.reduceEqDiff, Nat.reduceAdd, reduceIte, q0, q1, q2, q3, qi, g3, h66, b1, c1, hfl]; first | done | with_reducible rfl)))
                | refine WD.nil ?_
                | (apply WD.callv; (case e => (simp only [go_sem, Nat.reduceEqDiff, Nat.reduceAdd, reduceIte, q0, q1, q2, q3, qi, g3, h66, b1, c1, hfl]; first | done | with_reducible rfl)); (case c => (simp only [go_sem, Nat.reduceEqDiff, Nat.reduceAdd, reduceIte, q0, q1, q2, q3, qi, g3, h66, b1, c1, hfl]; first | done | with_reducible rfl)); (case hi => first | trivial | (simp only [nx_H]; done)); (case hc => rfl))
                | (apply WD.ok; (case e => (simp only [go_sem, Nat.reduceEqDiff, Nat.reduceAdd, reduceIte, q0, q1, q2, q3, qi, g3, h66, b1, c1, hfl]; first | done | with_reducible rfl)); (case hi => first | trivial | (simp only [nx_H]; done)); (case hc => first | rfl | (simp only [eqV, beq_self_eq_true, Bool.and_self, Bool.or_true, Bool.and_true, Option.isSome_some]; done)))
                | (apply WD.guardF; (case hj => (simp only [go_sem, Nat.reduceEqDiff, Nat.reduceAdd, reduceIte, q0, q1, q2, q3, qi, g3, h66, b1, c1, hfl]; first | done | with_reducible rfl)); (case hi => first | trivial | (simp only [nx_H]; done)))
                | with_reducible exact tf
                | with_reducible exact ft
                | intro _)
            exact ⟨by (simp only [go_sem, Nat.reduceEqDiff, Nat.reduceAdd, reduceIte, gd]; first | done | with_reducible rfl), by simp only [nx_H]; exact R4.keep, .inr ⟨rfl, hfail (by unfold stepL; rw [if_pos z0, if_neg z3, if_neg (by intro h; exact i1 ⟨h.2.1, h.2.2.1⟩)])⟩⟩
      · have e0 : (!(x.f0.toList == (⟨#[]⟩ : ByteArray).toList)) = true := by rw [str_empty]; simp [z0]
        obtain ⟨H5, h41, hK5⟩ := K41 x.f0 H4 (hL.keep R4.keep)
        have R5 := R4.more hK5
        by_cases p1 : (x.f0.size : Int) > 100
        · have e1 : decide ((x.f0.size : Int) > 100) = true := decide_eq_true p1
          repeat' (first
              | refine W.seq ?_
              | refine W.wo ?_
              | refine WO.nil ?_
              | (apply WO.panicv; (case e => (simp only [go_sem, Nat.reduceEqDiff, Nat.reduceAdd, reduceIte, q0, q1, q2, q3, qi, e0, hfl, h41, e1]; first | done | with_reducible rfl)))
              | (apply WO.ok; (case e => (simp only [go_sem, Nat.reduceEqDiff, Nat.reduceAdd, reduceIte, q0, q1, q2, q3, qi, e0, hfl, h41, e1]; first | done | with_reducible rfl)))
              | (apply WO.guardF; (case hj => (simp only [go_sem, Nat.reduceEqDiff, Nat.reduceAdd, reduceIte, q0, q1, q2, q3, qi, e0, hfl, h41, e1]; first | done | with_reducible rfl)))
              | (apply W.branch; (case e => (simp only [go_sem, Nat.reduceEqDiff, Nat.reduceAdd, reduceIte, q0, q1, q2, q3, qi, e0, hfl, h41, e1]; first | done | with_reducible rfl)))
              | with_reducible exact tf
              | intro _)
          exact ⟨by (simp only [go_sem, Nat.reduceEqDiff, Nat.reduceAdd, reduceIte, gd]; first | done | with_reducible rfl), by simp only [nx_H]; exact R4.keep, .inr ⟨rfl, hfail (by unfold stepL; rw [if_neg z0, if_neg (by omega)])⟩⟩
        have e1 : decide ((x.f0.size : Int) > 100) = false := decide_eq_false p1
        by_cases p2 : x.f1 ≠ 0
        · have e2 : (x.f1 != 0) = true := by simp [p2]
          repeat' (first
              | refine W.seq ?_
              | refine W.wo ?_
              | refine WO.nil ?_
              | (apply WO.panicv; (case e => (simp only [go_sem, Nat.reduceEqDiff, Nat.reduceAdd, reduceIte, q0, q1, q2, q3, qi, e0, hfl, h41, e1, e2]; first | done | with_reducible rfl)))
              | (apply WO.ok; (case e => (simp only [go_sem, Nat.reduceEqDiff, Nat.reduceAdd, reduceIte, q0, q1, q2, q3, qi, e0, hfl, h41, e1, e2]; first | done | with_reducible rfl)))
              | (apply WO.guardF; (case hj => (simp only [go_sem, Nat.reduceEqDiff, Nat.reduceAdd, reduceIte, q0, q1, q2, q3, qi, e0, hfl, h41, e1, e2]; first | done | with_reducible rfl)))
              | (apply W.branch; (case e => (simp only [go_sem, Nat.reduceEqDiff, Nat.reduceAdd, reduceIte, q0, q1, q2, q3, qi, e0, hfl, h41, e1, e2]; first | done | with_reducible rfl)))
              | with_reducible exact tf
              | with_reducible exact ft
              | intro _)
          exact ⟨by (simp only [go_sem, Nat.reduceEqDiff, Nat.reduceAdd, reduceIte, gd]; first | done | with_reducible rfl), by simp only [nx_H]; exact R4.keep, .inr ⟨rfl, hfail (by unfold stepL; rw [if_neg z0, if_neg (by omega)])⟩⟩
        have e2 : (x.f1 != 0) = false := by simpa using p2
        by_cases p3 : x.f2 ≠ 0
        · have e3 : (x.f2 != 0) = true := by simp [p3]
          repeat' (first
              | refine W.seq ?_
              | refine W.wo ?_
              | refine WO.nil ?_
              | (apply WO.panicv; (case e => (simp only [go_sem, Nat.reduceEqDiff, Nat.reduceAdd, reduceIte, q0, q1, q2, q3, qi, e0, hfl, h41, e1, e2, e3]; first | done | with_reducible rfl)))
              | (apply WO.ok; (case e => (simp only [go_sem, Nat.reduceEqDiff, Nat.reduceAdd, reduceIte, q0, q1, q2, q3, qi, e0, hfl, h41, e1, e2, e3]; first | done | with_reducible rfl)))
              | (apply WO.guardF; (case hj => (simp only [go_sem, Nat.reduceEqDiff, Nat.reduceAdd, reduceIte, q0, q1, q2, q3, qi, e0, hfl, h41, e1, e2, e3]; first | done | with_reducible rfl)))
              | (apply W.branch; (case e => (simp only [go_sem, Nat.reduceEqDiff, Nat.reduceAdd, reduceIte, q0, q1, q2, q3, qi, e0, hfl, h41, e1, e2, e3]; first | done | with_reducible rfl)))
              | with_reducible exact tf
              | with_reducible exact ft
              | intro _)
          exact ⟨by (simp only [go_sem, Nat.reduceEqDiff, Nat.reduceAdd, reduceIte, gd]; first | done | with_reducible rfl), by simp only [nx_H]; exact R4.keep, .inr ⟨rfl, hfail (by unfold stepL; rw [if_neg z0, if_neg (by omega)])⟩⟩
        have e3 : (x.f2 != 0) = false := by simpa using p3
        by_cases p4 : x.f3 ≠ 0
        · have e4 : (x.f3 != 0) = true := by simp [p4]
          repeat' (first
              | refine W.seq ?_
              | refine W.wo ?_
              | refine WO.nil ?_
              | (apply WO.panicv; (case e => (simp only [go_sem, Nat.reduceEqDiff, Nat.reduceAdd, reduceIte, q0, q1, q2, q3, qi, e0, hfl, h41, e1, e2, e3, e4]; first | done | with_reducible rfl)))
              | (apply WO.ok; (case e => (simp only [go_sem, Nat.reduceEqDiff, Nat.reduceAdd, reduceIte, q0, q1, q2, q3, qi, e0, hfl, h41, e1, e2, e3, e4]; first | done | with_reducible rfl)))
              | (apply WO.guardF; (case hj => (simp only [go_sem, Nat.reduceEqDiff, Nat.reduceAdd, reduceIte, q0, q1, q2, q3, qi, e0, hfl, h41, e1, e2, e3, e4]; first | done | with_reducible rfl)))
              | (apply W.branch; (case e => (simp only [go_sem, Nat.reduceEqDiff, Nat.reduceAdd, reduceIte, q0, q1, q2, q3, qi, e0, hfl, h41, e1, e2, e3, e4]; first | done | with_reducible rfl)))
              | with_reducible exact tf
              | with_reducible exact ft
              | intro _)
          exact ⟨by (simp only [go_sem, Nat.reduceEqDiff, Nat.reduceAdd, reduceIte, gd]; first | done | with_reducible rfl), by simp only [nx_H]; exact R4.keep, .inr ⟨rfl, hfail (by unfold stepL; rw [if_neg z0, if_neg (by omega)])⟩⟩
        have e4 : (x.f3 != 0) = false := by simpa using p4
        by_cases p5 : checkS x.f0 ≠ 0
        · have e5 : (checkS x.f0 != 0) = true := by simp [p5]
          repeat' (first
              | refine W.seq ?_
              | refine W.wo ?_
              | refine WO.nil ?_
              | (apply WO.callv; (case e => (simp only [go_sem, Nat.reduceEqDiff, Nat.reduceAdd, reduceIte, q0, q1, q2, q3, qi, e0, hfl, h41, e1, e2, e3, e4, e5]; first | done | with_reducible rfl)); (case c => (simp only [go_sem, Nat.reduceEqDiff, Nat.reduceAdd, reduceIte, q0, q1, q2, q3, qi, e0, hfl, h41, e1, e2, e3, e4, e5]; first | done | with_reducible rfl)))
              | (apply WO.panicv; (case e => (simp only [go_sem, Nat.reduceEqDiff, Nat.reduceAdd, reduceIte, q0, q1, q2, q3, qi, e0, hfl, h41, e1, e2, e3, e4, e5]; first | done | with_reducible rfl)))
              | (apply WO.ok; (case e => (simp only [go_sem, Nat.reduceEqDiff, Nat.reduceAdd, reduceIte, q0, q1, q2, q3, qi, e0, hfl, h41, e1, e2, e3, e4, e5]; first | done | with_reducible rfl)))
              | (apply WO.guardF; (case hj => (simp only [go_sem, Nat.reduceEqDiff, Nat.reduceAdd, reduceIte, q0, q1, q2, q3, qi, e0, hfl, h41, e1, e2, e3, e4, e5]; first | done | with_reducible rfl)))
              | (apply W.branch; (case e => (simp only [go_sem, Nat.reduceEqDiff, Nat.reduceAdd, reduceIte, q0, q1, q2, q3, qi, e0, hfl, h41, e1, e2, e3, e4, e5]; first | done | with_reducible rfl)))
              | with_reducible exact tf
              | with_reducible exact ft
              | intro _)
          exact ⟨by (simp only [go_sem, Nat.reduceEqDiff, Nat.reduceAdd, reduceIte, gd]; first | done | with_reducible rfl), by simp only [nx_H]; exact R5.keep, .inr ⟨rfl, hfail (by unfold stepL; rw [if_neg z0, if_neg (by omega)])⟩⟩
        have e5 : (checkS x.f0 != 0) = false := by simpa using p5
        have r0 := R5.lw
        have r1 := R5.l1
        have r2 := R5.l2
        have r3 := R5.l3
        have ri := R5.li
        obtain ⟨H6, hst, hk6, hs6, ho6, hv6, hl6, hi6⟩ := R5.st x.f0.size
        have hs : stepL done x = some (x.f0.size : Int) := by unfold stepL; rw [if_neg z0, if_pos (by omega)]
        have hbig : decide ((x.f0.size : Int) > 1152921504606846976) = false := by have := stepL_good igood hs; simp; omega
        repeat' (first
            | refine W.seq ?_
            | refine W.wo ?_
            | refine WO.nil ?_
            | (apply WO.callv; (case e => (simp only [go_sem, Nat.reduceEqDiff, Nat.reduceAdd, reduceIte, q0, q1, q2, q3, qi, e0, hfl, h41, g3, hix, e1, e2, e3, e4, e5, r0, r1, r2, r3, ri, hst, hl6, hi6, hbig, g17, hw]; first | done | with_reducible rfl)); (case c => (simp only [go_sem, Nat.reduceEqDiff, Nat.reduceAdd, reduceIte, q0, q1, q2, q3, qi, e0, hfl, h41, g3, hix, e1, e2, e3, e4, e5, r0, r1, r2, r3, ri, hst, hl6, hi6, hbig, g17, hw]; first | done | with_reducible rfl)))
            | (apply WO.ok; (case e => (simp only [go_sem, Nat.reduceEqDiff, Nat.reduceAdd, reduceIte, q0, q1, q2, q3, qi, e0, hfl, h41, g3, hix, e1, e2, e3, e4, e5, r0, r1, r2, r3, ri, hst, hl6, hi6, hbig, g17, hw]; first | done | with_reducible rfl)))
            | (apply WO.guardF; (case hj => (simp only [go_sem, Nat.reduceEqDiff, Nat.reduceAdd, reduceIte, q0, q1, q2, q3, qi, e0, hfl, h41, g3, hix, e1, e2, e3, e4, e5, r0, r1, r2, r3, ri, hst, hl6, hi6, hbig, g17, hw]; first | done | with_reducible rfl)))
            | refine W.skip ?_
            | (apply W.branch; (case e => (simp only [go_sem, Nat.reduceEqDiff, Nat.reduceAdd, reduceIte, q0, q1, q2, q3, qi, e0, hfl, h41, g3, hix, e1, e2, e3, e4, e5, r0, r1, r2, r3, ri, hst, hl6, hi6, hbig, g17, hw]; first | done | with_reducible rfl)))
            | with_reducible exact tf
            | with_reducible exact ft
            | intro _)
        exact fin x.f0.size _ hs (by (simp only [go_sem, Nat.reduceEqDiff, Nat.reduceAdd, reduceIte, g15]; first | done | with_reducible rfl)) (by (simp only [go_sem, Nat.reduceEqDiff, Nat.reduceAdd, reduceIte, g16]; first | done | with_reducible rfl)) (by (simp only [go_sem, Nat.reduceEqDiff, Nat.reduceAdd, reduceIte]; first | done | with_reducible rfl)) (by (simp only [go_sem, Nat.reduceEqDiff, Nat.reduceAdd, reduceIte, g3]; first | done | with_reducible rfl)) (by (simp only [go_sem, Nat.reduceEqDiff, Nat.reduceAdd, reduceIte, gd]; first | done | with_reducible rfl)) (by simp only [nx_H]; exact hk6) (by simp only [nx_H]; exact hs6) (by simp only [nx_H]; exact ho6)
theorem K50 (hL : GG H) (hA : l0 = [] ∨ ∃ b o sp bc u ro rst, bs = some ⟨b, o, sp⟩ ∧ b < H.size ∧ H.get b = some (.cells bc u ro) ∧ bc.drop o = l0.flatMap enc55 ++ rst) : ∃ H', Keep H H' ∧
    ((∃ out, lens l0 = some out ∧ K 50 #[.slice bs l0.length cp] H = some (.ret (.slice (some ⟨H.size, 0, none⟩) l0.length l0.length) H') ∧ H'.get H.size = some (.cells (out.map (Value.int .i64)) ⟨0, 3, true⟩ false) ∧ H.size < H'.size ∧ out.length = l0.length ∧ goodL out) ∨
     (lens l0 = none ∧ K 50 #[.slice bs l0.length cp] H = some (.pan (.iface 79 (.agg #[])) H'))) := by
  have h := W50 (cp := cp) hL hA
  have hn : ¬ a50.ntmps < (#[.slice bs l0.length cp] : Array Value).size := by simp [a50]
  have h' := h
  unfold W at h'
  obtain ⟨n, ex, st, h1, h2, h3, h4⟩ := h'
  refine ⟨st.H, h3, ?_⟩
  rcases h4 with ⟨rfl, out, a1, a2, a3, a4, a5, a6⟩ | ⟨rfl, a1⟩
  · refine .inl ⟨out, a1, K_call a50_eq hn ?_, a3, a4, a5, a6⟩
    unfold W
    exact ⟨n, .ret, st, h1, leave0 h2 (res1 a2 (by intro c h; cases h)) rfl⟩
  · refine .inr ⟨a1, K_call a50_eq hn ?_⟩
    unfold W
    exact ⟨n, _, st, h1, leavep h2 rfl⟩
end
end Go.Proofs.YtehbekgmemebjaaDoorEv
