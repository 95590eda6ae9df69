import Derived.Test.YtehbekgmemebjaaDoorSlO
namespace Go.Proofs.YtehbekgmemebjaaDoorEv
open Go Go.RowKit
set_option linter.unusedVariables false
set_option linter.unusedSimpArgs false
attribute [local go_sem] evOp beq_true beq_false List.getElem?_toArray List.getElem?_cons_zero List.getElem?_cons_succ env_tmp env_const env_func env_global nx_get nx_getn nx_H nx_ds nx_df nx_pm get_enter one_ne_zero' zero_ne_one' if_false if_true ite_true ite_false List.getD_cons_zero List.getD_cons_succ Option.map_some Option.map_none Option.bind_some binO unO eqO List.map_toArray List.map_cons List.map_nil Array.append_empty Array.empty_append List.nil_append List.append_nil List.append_toArray List.cons_append ne_eq not_true_eq_false Bool.false_eq_true Bool.not_true Bool.not_false Bool.true_eq_false
def Q48 (H : Hp) (mb bn bs : Nat) (p : MS × Int) (ex : AExit) (st : St) : Prop := ex = .ret ∧ st.ds = [] ∧ st.get 8 = .int .i64 p.2 ∧ ∃ bn' bs', MK st.H mb bn' bs' p.1 ∧ MSt H st.H mb bn bs bn' bs'
def C48 (H : Hp) (mb bn bs : Nat) (n i j : Int) (p : MS × Int) : Prop := ∃ H' bn' bs', K 48 #[.pointer (some ⟨mb, 0, none⟩), .int .i64 n, .int .i64 i, .int .i64 j] H = some (.ret (.int .i64 p.2) H') ∧ MK H' mb bn' bs' p.1 ∧ MSt H H' mb bn bs bn' bs'
theorem C48.of {H : Hp} {mb bn bs : Nat} {n i j : Int} {p : MS × Int} (h : W K a48.body { t := enterT 0 #[.pointer (some ⟨mb, 0, none⟩), .int .i64 n, .int .i64 i, .int .i64 j].toList .nil, H, ds := [], df := false, pm := none } (Q48 H mb bn bs p)) : C48 H mb bn bs n i j p := by
  have hn : ¬ a48.ntmps < (#[.pointer (some ⟨mb, 0, none⟩), .int .i64 n, .int .i64 i, .int .i64 j] : Array Value).size := by simp [a48]
  unfold W at h
  obtain ⟨k, ex, st, h1, rfl, h2, h3, bn', bs', h4, h5⟩ := h
  refine ⟨st.H, bn', bs', K_call a48_eq hn ?_, h4, h5⟩
  unfold W
  exact ⟨k, .ret, st, h1, leave0 h2 (res1 h3 (by intro c h; cases h)) rfl⟩
theorem bounds_ij {z i j : Int} {n : Nat} (h0 : 0 ≤ i) (h1 : i ≤ j) (h2 : j ≤ n) : boundsO n n (some (.int .i64 i)) (some (.int .i64 j)) none = some (i.toNat, j.toNat, n) := by
  have e1 : boundO 0 n (.int .i64 j) = some j.toNat := by unfold boundO; simp only []; rw [if_pos (by omega)]
  have e2 : boundO 0 j.toNat (.int .i64 i) = some i.toNat := by unfold boundO; simp only []; rw [if_pos (by omega)]
  unfold boundsO optBound
  simp [e1, e2]
theorem box_loads {H : Hp} {M : Nat} {x : S55} (h : H.get M = some (.cells (enc55 x) ⟨0, 55, true⟩ false)) : loadO H (.pointer (some ⟨M, 0, none⟩)) = some (.string x.f0) ∧ loadO H (.pointer (some ⟨M, 1, none⟩)) = some (.int .i64 x.f1) ∧ loadO H (.pointer (some ⟨M, 2, none⟩)) = some (.int .i64 x.f2) ∧ loadO H (.pointer (some ⟨M, 3, none⟩)) = some (.int .i64 x.f3) := by
  refine ⟨?_, ?_, ?_, ?_⟩ <;> (simp only [loadO, h]; rfl)
theorem size_load {H : Hp} {mb bn bs : Nat} {s : MS} (hM : MK H mb bn bs s) {n : Int} (n0 : 0 ≤ n) (n1 : n < s.2.length) : loadO H (.pointer (some ⟨mb, 1, none⟩)) = some (.slice (some ⟨bs, 0, none⟩) s.2.length s.2.length) ∧ loadO H (.pointer (some ⟨bs, n.toNat, none⟩)) = some (.int .i64 (rd s.2 n)) := by
  obtain ⟨um, gm⟩ := hM.gm
  obtain ⟨us, hus, gs⟩ := hM.gs
  exact ⟨by simp only [loadO, gm]; rfl, rd_load gs n0 n1⟩
theorem W.gen {c : ACode} {k : Caller} {s : St} {Q : AExit → St → Prop} (P : St → Prop) (hP : P s) (h : ∀ t, P t → W k c t Q) : W k c s Q := h s hP
structure CxC (l0 : List S55) (o0 : List Int) (H H1 H2 : Hp) (M mb bn bs : Nat) (s : MS) (n i j : Int) (x : S55) : Prop where
  hr : Rope l0 o0
  hM : MK H mb bn bs s
  hx : ExM (l0, o0) s
  he : s.2.length = s.1.length
  n0 : 0 ≤ n
  n1 : n < l0.length
  i0 : 0 ≤ i
  i1 : i ≤ rd o0 n
  j0 : 0 ≤ j
  j1 : j ≤ rd o0 n
  v2 : rd o0 n ≤ 1152921504606846976
  node : NodeIs o0 n.toNat x (rd o0 n)
  hn4 : loadAO H 4 (.pointer (some ⟨bn, n.toNat * 4, none⟩)) = some (.agg #[.string x.f0, .int .i64 x.f1, .int .i64 x.f2, .int .i64 x.f3])
  l0m : loadO H (.pointer (some ⟨mb, 0, none⟩)) = some (.slice (some ⟨bn, 0, none⟩) s.1.length s.1.length)
  x0 : (0 ≤ n ∧ n < (s.1.length : Int)) = True
  x1 : (0 ≤ n ∧ n < (s.2.length : Int)) = True
  hMs : H.size = M
  hH1 : H.new (.cells [.string ⟨#[]⟩, .int .i64 0, .int .i64 0, .int .i64 0] ⟨0, 55, true⟩ false) = H1
  s2 : H2.size = M + 1
  st2 : storeO H1 4 (.agg #[.string x.f0, .int .i64 x.f1, .int .i64 x.f2, .int .i64 x.f3]) (.pointer (some ⟨M, 0, none⟩)) = some H2
  k2 : Keep H H2
  gb : H2.get M = some (.cells (enc55 x) ⟨0, 55, true⟩ false)
  lz1 : loadO H2 (.pointer (some ⟨mb, 1, none⟩)) = some (.slice (some ⟨bs, 0, none⟩) s.2.length s.2.length)
  lz2 : loadO H2 (.pointer (some ⟨bs, n.toNat, none⟩)) = some (.int .i64 (rd o0 n))
def IH48 (l0 : List S55) (o0 : List Int) (f : Nat) : Prop := ∀ (H : Hp) (mb bn bs : Nat) (s : MS), MK H mb bn bs s → ExM (l0, o0) s → s.2.length = s.1.length → ∀ n i j : Int, 0 ≤ n → n < l0.length → n < f → 0 ≤ i → i ≤ rd o0 n → 0 ≤ j → j ≤ rd o0 n → (cutP f s n i j).1.1.length ≤ 4000 → C48 H mb bn bs n i j (cutP f s n i j)
abbrev E48 (mb : Nat) (n i j : Int) (H : Hp) : St := { t := enterT 0 #[.pointer (some ⟨mb, 0, none⟩), .int .i64 n, .int .i64 i, .int .i64 j].toList .nil, H, ds := [], df := false, pm := none }
section
variable {l0 : List S55} {o0 : List Int} {H H1 H2 : Hp} {M mb bn bs : Nat} {s : MS} {n i j : Int} {x : S55}
theorem CxC.ms (c : CxC l0 o0 H H1 H2 M mb bn bs s n i j x) : MSt H H2 mb bn bs bn bs := MSt.of c.k2 mb bn bs
theorem CxC.m2 (c : CxC l0 o0 H H1 H2 M mb bn bs s n i j x) : MK H2 mb bn bs s := c.hM.old c.k2
theorem CxC.apart (c : CxC l0 o0 H H1 H2 M mb bn bs s n i j x) : M ≠ mb ∧ M ≠ bn ∧ M ≠ bs := by
  have := c.hM.m0
  have := c.hM.n0
  have := c.hM.s0
  have := c.hMs
  omega
theorem hsplit48 {v : Int} (hw : ¬ (i = 0 ∧ j = v)) : ((i == 0) = true ∧ (j == v) = false) ∨ ((i == 0) = false ∧ ((0 : Nat) = 0)) := by
  by_cases c1 : i = 0
  · exact .inl ⟨beq_iff_eq.2 c1, by rw [beq_eq_false_iff_ne]; exact fun c2 => hw ⟨c1, c2⟩⟩
  · exact .inr ⟨by rw [beq_eq_false_iff_ne]; exact c1, rfl⟩
def P48 (H2 : Hp) (M mb : Nat) (i j : Int) (t : St) : Prop := t.H = H2 ∧ t.ds = [] ∧ t.get 0 = .pointer (some ⟨mb, 0, none⟩) ∧ t.get 2 = .int .i64 i ∧ t.get 3 = .int .i64 j ∧ t.get 9 = .pointer (some ⟨M, 0, none⟩)
theorem W48a (c : CxC l0 o0 H H1 H2 M mb bn bs s n i j x) (hij : i ≥ j) : W K a48.body (E48 mb n i j H) (Q48 H mb bn bs (s, -1)) := by
  obtain ⟨hr, hM, hx, he, n0, n1, i0, i1, j0, j1, v2, hnode, hn4, l0m, x0, x1, hMs, hH1, s2, st2, k2, gb, lz1, lz2⟩ := id c
  have e1 : decide (i ≥ j) = true := decide_eq_true hij
  unfold a48
  repeat' (first
      | refine W.seq ?_
      | refine W.wo ?_
      | refine WO.nil ?_
      | (apply WO.ok; (case e => (simp only [go_sem, Nat.reduceEqDiff, Nat.reduceAdd, reduceIte, l0m, x0, hn4, hMs, hH1, st2, e1, Nat.zero_add]; first | done | with_reducible rfl)))
      | refine W.ret ?_
      | refine W.block ?_
      | (apply W.branch; (case e => (simp only [go_sem, Nat.reduceEqDiff, Nat.reduceAdd, reduceIte, l0m, x0, hn4, hMs, hH1, st2, e1, Nat.zero_add]; first | done | with_reducible rfl)))
      | with_reducible exact tf
      | intro _)
  exact ⟨rfl, by (simp only [go_sem, Nat.reduceEqDiff, Nat.reduceAdd, reduceIte]; first | done | with_reducible rfl), by (simp only [go_sem, Nat.reduceEqDiff, Nat.reduceAdd, reduceIte]; first | done | with_reducible rfl), bn, bs, by simp only [nx_H]; exact c.m2, by simp only [nx_H]; exact c.ms⟩
theorem W48b (c : CxC l0 o0 H H1 H2 M mb bn bs s n i j x) (hij : ¬ i ≥ j) (hw : i = 0 ∧ j = rd o0 n) : W K a48.body (E48 mb n i j H) (Q48 H mb bn bs (s, n)) := by
  obtain ⟨hr, hM, hx, he, n0, n1, i0, i1, j0, j1, v2, hnode, hn4, l0m, x0, x1, hMs, hH1, s2, st2, k2, gb, lz1, lz2⟩ := id c
  have e1 : decide (i ≥ j) = false := decide_eq_false hij
  have e2 : (i == 0) = true := beq_iff_eq.2 hw.1
  have e3 : (j == rd o0 n) = true := beq_iff_eq.2 hw.2
  unfold a48
  repeat' (first
      | refine W.seq ?_
      | refine W.wo ?_
      | refine WO.nil ?_
      | (apply WO.ok; (case e => (simp only [go_sem, Nat.reduceEqDiff, Nat.reduceAdd, reduceIte, l0m, x0, hn4, hMs, hH1, st2, e1, e2, lz1, lz2, x1, e3, Nat.zero_add, Nat.mul_one]; first | done | with_reducible rfl)))
      | (apply WO.guardT; (case hj => (simp only [go_sem, Nat.reduceEqDiff, Nat.reduceAdd, reduceIte, l0m, x0, hn4, hMs, hH1, st2, e1, e2, lz1, lz2, x1, e3, Nat.zero_add, Nat.mul_one]; first | done | with_reducible rfl)))
      | refine W.ret ?_
      | refine W.block ?_
      | (apply W.branch; (case e => (simp only [go_sem, Nat.reduceEqDiff, Nat.reduceAdd, reduceIte, l0m, x0, hn4, hMs, hH1, st2, e1, e2, lz1, lz2, x1, e3, Nat.zero_add, Nat.mul_one]; first | done | with_reducible rfl)))
      | with_reducible exact tf
      | with_reducible exact ft
      | intro _)
  exact ⟨rfl, by (simp only [go_sem, Nat.reduceEqDiff, Nat.reduceAdd, reduceIte]; first | done | with_reducible rfl), by (simp only [go_sem, Nat.reduceEqDiff, Nat.reduceAdd, reduceIte]; first | done | with_reducible rfl), bn, bs, by simp only [nx_H]; exact c.m2, by simp only [nx_H]; exact c.ms⟩
theorem W48c (c : CxC l0 o0 H H1 H2 M mb bn bs s n i j x) (hij : ¬ i ≥ j) (hw : ¬ (i = 0 ∧ j = rd o0 n)) (h0 : x.f0.size ≠ 0) (e : rd o0 n = x.f0.size) (hl : s.1.length ≤ 4000) : W K a48.body (E48 mb n i j H) (Q48 H mb bn bs (putP s ⟨subS x.f0 i j, 0, 0, 0⟩ (j - i), (s.1.length : Int))) := by
  obtain ⟨hr, hM, hx, he, n0, n1, i0, i1, j0, j1, v2, hnode, hn4, l0m, x0, x1, hMs, hH1, s2, st2, k2, gb, lz1, lz2⟩ := id c
  have e1 : decide (i ≥ j) = false := decide_eq_false hij
  obtain ⟨q0, q1, q2, q3⟩ := box_loads gb
  have e4 : (!(x.f0.toList == (⟨#[]⟩ : ByteArray).toList)) = true := by rw [str_empty]; simp [h0]
  have hb := bounds_ij (z := 0) (n := x.f0.size) i0 (show i ≤ j by omega) (show j ≤ x.f0.size by omega)
  have hf := fillW (x.f0.extract i.toNat j.toNat)
  have hwr : IntKind.i64.wrap (j - i) = j - i := i64w (by omega) (by omega)
  obtain ⟨H3, bn', bs', k1, k2', k3⟩ := K63 c.m2 he (by omega) ⟨subS x.f0 i j, 0, 0, 0⟩ (j - i)
  have hc : K 63 #[.pointer (some ⟨mb, 0, none⟩), .agg #[.string (x.f0.extract i.toNat j.toNat), .int .i64 0, .int .i64 0, .int .i64 0], .int .i64 (j - i)] H2 = some (.ret (.int .i64 s.1.length) H3) := k1
  rcases hsplit48 hw with ⟨e2, e3⟩ | ⟨e2, e3⟩
  all_goals
    unfold a48
    repeat' (first
        | refine W.seq ?_
        | refine W.wo ?_
        | refine WO.nil ?_
        | (apply WO.callv; (case e => (simp only [go_sem, Nat.reduceEqDiff, Nat.reduceAdd, reduceIte, l0m, x0, hn4, hMs, hH1, st2, e1, e2, lz1, lz2, x1, e3, q0, e4, hb, hf, hwr, hc, Nat.zero_add, Nat.mul_one]; first | done | with_reducible rfl)); (case c => (simp only [go_sem, Nat.reduceEqDiff, Nat.reduceAdd, reduceIte, l0m, x0, hn4, hMs, hH1, st2, e1, e2, lz1, lz2, x1, e3, q0, e4, hb, hf, hwr, hc, Nat.zero_add, Nat.mul_one]; first | done | with_reducible rfl)))
        | (apply WO.ok; (case e => (simp only [go_sem, Nat.reduceEqDiff, Nat.reduceAdd, reduceIte, l0m, x0, hn4, hMs, hH1, st2, e1, e2, lz1, lz2, x1, e3, q0, e4, hb, hf, hwr, hc, Nat.zero_add, Nat.mul_one]; first | done | with_reducible rfl)))
        | (apply WO.guardT; (case hj => (simp only [go_sem, Nat.reduceEqDiff, Nat.reduceAdd, reduceIte, l0m, x0, hn4, hMs, hH1, st2, e1, e2, lz1, lz2, x1, e3, q0, e4, hb, hf, hwr, hc, Nat.zero_add, Nat.mul_one]; first | done | with_reducible rfl)))
        | refine W.ret ?_
        | refine W.block ?_
        | (apply W.branch; (case e => (simp only [go_sem, Nat.reduceEqDiff, Nat.reduceAdd, reduceIte, l0m, x0, hn4, hMs, hH1, st2, e1, e2, lz1, lz2, x1, e3, q0, e4, hb, hf, hwr, hc, Nat.zero_add, Nat.mul_one]; first | done | with_reducible rfl)))
        | with_reducible exact tf
        | with_reducible exact ft
        | intro _)
    exact ⟨rfl, by (simp only [go_sem, Nat.reduceEqDiff, Nat.reduceAdd, reduceIte]; first | done | with_reducible rfl), by (simp only [go_sem, Nat.reduceEqDiff, Nat.reduceAdd, reduceIte]; first | done | with_reducible rfl), bn', bs', by simp only [nx_H]; exact k2', by simp only [nx_H]; exact c.ms.trans k3⟩
end
end Go.Proofs.YtehbekgmemebjaaDoorEv
namespace Go.Proofs.YtehbekgmemebjaaDoorEv
open Go Go.RowKit
set_option linter.unusedVariables false
set_option linter.unusedSimpArgs false
attribute [local go_sem] evOp beq_true beq_false List.getElem?_toArray List.getElem?_cons_zero List.getElem?_cons_succ env_tmp env_const env_func env_global nx_get nx_getn nx_H nx_ds nx_df nx_pm get_enter one_ne_zero' zero_ne_one' if_false if_true ite_true ite_false List.getD_cons_zero List.getD_cons_succ Option.map_some Option.map_none Option.bind_some binO unO eqO List.map_toArray List.map_cons List.map_nil Array.append_empty Array.empty_append List.nil_append List.append_nil List.append_toArray List.cons_append ne_eq not_true_eq_false Bool.false_eq_true Bool.not_true Bool.not_false Bool.true_eq_false
section
variable {l0 : List S55} {o0 : List Int} {H H1 H2 : Hp} {M mb bn bs : Nat} {s : MS} {n i j : Int} {x : S55}
set_option maxHeartbeats 4000000 in
theorem W48d (c : CxC l0 o0 H H1 H2 M mb bn bs s n i j x) {f : Nat} (ih : IH48 l0 o0 f) (nf : n < f + 1) (hij : ¬ i ≥ j) (hw : ¬ (i = 0 ∧ j = rd o0 n)) (h0 : x.f0.size = 0) (ht : 1 ≤ x.f3) (f0 : 0 ≤ x.f1) (f1 : x.f1 < n.toNat)
    (hpq : Int.tdiv i (rd o0 x.f1) = Int.tdiv j (rd o0 x.f1)) (hl : (cutP f s x.f1 (Int.tmod i (rd o0 x.f1)) (Int.tmod j (rd o0 x.f1))).1.1.length ≤ 4000) : W K a48.body (E48 mb n i j H) (Q48 H mb bn bs (cutP f s x.f1 (Int.tmod i (rd o0 x.f1)) (Int.tmod j (rd o0 x.f1)))) := by
  obtain ⟨hr, hM, hx, he, n0, n1, i0, i1, j0, j1, v2, hnode, hn4, l0m, x0, x1, hMs, hH1, s2, st2, k2, gb, lz1, lz2⟩ := id c
  have hls : l0.length ≤ s.1.length := hx.len
  have hol := hr.len
  have hle := hr.le
  have hM2 := c.m2
  have e1 : decide (i ≥ j) = false := decide_eq_false hij
  obtain ⟨q0, q1, q2, q3⟩ := box_loads gb
  have hfn : x.f1 < l0.length := by omega
  obtain ⟨_, _, _, hzo, z1, z2, _⟩ := front hr hx f0 hfn
  obtain ⟨lz3, lz4⟩ := size_load hM2 f0 (show x.f1 < s.2.length by omega)
  rw [hzo] at lz4
  generalize hz : rd o0 x.f1 = z at *
  have e4 : (!(x.f0.toList == (⟨#[]⟩ : ByteArray).toList)) = false := by rw [str_empty]; simp [h0]
  have e5 : (x.f3 != 0) = true := by rw [bne_iff_ne]; omega
  have x2 : (0 ≤ x.f1 ∧ x.f1 < (s.2.length : Int)) = True := eq_true ⟨f0, by omega⟩
  have hz0 : (z = 0) = False := eq_false (by omega)
  have tp := Int.tdiv_eq_ediv_of_nonneg (b := z) i0
  have tq := Int.tdiv_eq_ediv_of_nonneg (b := z) j0
  have p0 : 0 ≤ Int.tdiv i z := by rw [tp]; exact Int.ediv_nonneg i0 (by omega)
  have qq0 : 0 ≤ Int.tdiv j z := by rw [tq]; exact Int.ediv_nonneg j0 (by omega)
  have p2 : Int.tdiv i z ≤ i := by rw [tp]; exact Int.ediv_le_self _ i0
  have qq2 : Int.tdiv j z ≤ j := by rw [tq]; exact Int.ediv_le_self _ j0
  have ai := Int.tmod_nonneg z i0
  have aj := Int.tmod_nonneg z j0
  have bi := Int.tmod_lt_of_pos i (show 0 < z by omega)
  have bj := Int.tmod_lt_of_pos j (show 0 < z by omega)
  have wp : IntKind.i64.wrap (Int.tdiv i z) = Int.tdiv i z := i64w (by omega) (by omega)
  have wq : IntKind.i64.wrap (Int.tdiv j z) = Int.tdiv j z := i64w (by omega) (by omega)
  have e6 : (Int.tdiv i z == Int.tdiv j z) = true := beq_iff_eq.2 hpq
  obtain ⟨H3, bn', bs', hc, k2', k3⟩ := ih H2 mb bn bs s hM2 hx he x.f1 (Int.tmod i z) (Int.tmod j z) f0 hfn (by omega) ai (by omega) aj (by omega) hl
  rcases hsplit48 hw with ⟨e2, e3⟩ | ⟨e2, e3⟩
  all_goals
    unfold a48
    repeat' (first
        | refine W.seq ?_
        | refine W.wo ?_
        | refine WO.nil ?_
        | (apply WO.ok; (case e => (simp only [go_sem, Nat.reduceEqDiff, Nat.reduceAdd, reduceIte, l0m, x0, hn4, hMs, hH1, st2, e1, e2, lz1, lz2, x1, e3, q0, e4, q3, e5, Nat.zero_add, Nat.mul_one]; first | done | with_reducible rfl)))
        | (apply WO.guardT; (case hj => (simp only [go_sem, Nat.reduceEqDiff, Nat.reduceAdd, reduceIte, l0m, x0, hn4, hMs, hH1, st2, e1, e2, lz1, lz2, x1, e3, q0, e4, q3, e5, Nat.zero_add, Nat.mul_one]; first | done | with_reducible rfl)))
        | refine W.block ?_
        | (apply W.branch; (case e => (simp only [go_sem, Nat.reduceEqDiff, Nat.reduceAdd, reduceIte, l0m, x0, hn4, hMs, hH1, st2, e1, e2, lz1, lz2, x1, e3, q0, e4, q3, e5, Nat.zero_add, Nat.mul_one]; first | done | with_reducible rfl)))
        | with_reducible exact tf
        | with_reducible exact ft
        | intro _)
    refine W.gen (P48 H2 M mb i j) ⟨by (simp only [go_sem, Nat.reduceEqDiff, Nat.reduceAdd, reduceIte]; first | done | with_reducible rfl), by (simp only [go_sem, Nat.reduceEqDiff, Nat.reduceAdd, reduceIte]; first | done | with_reducible rfl), by (simp only [go_sem, Nat.reduceEqDiff, Nat.reduceAdd, reduceIte]; first | done | with_reducible rfl), by (simp only [go_sem, Nat.reduceEqDiff, Nat.reduceAdd, reduceIte]; first | done | with_reducible rfl), by (simp only [go_sem, Nat.reduceEqDiff, Nat.reduceAdd, reduceIte]; first | done | with_reducible rfl), by (simp only [go_sem, Nat.reduceEqDiff, Nat.reduceAdd, reduceIte]; first | done | with_reducible rfl)⟩ ?_
    rintro t ⟨rfl, td, t0, t2, t3, t9⟩
    apply W.wq
    case hg => kernel_rfl
    repeat' (first
        | refine W.seq ?_
        | refine WD.nil ?_
        | (apply WD.ok; (case e => (simp only [go_sem, Nat.reduceEqDiff, Nat.reduceAdd, reduceIte, t0, t2, t3, t9, lz3, lz4, q1, x2, Nat.zero_add, Nat.mul_one]; first | done | with_reducible rfl)); (case hi => first | trivial | (simp only [nx_H]; done)); (case hc => first | rfl | (simp only [eqV, beq_self_eq_true, Bool.and_self, Bool.or_true, Bool.and_true, Option.isSome_some]; done))))
    apply W.wq
    case hg => kernel_rfl
    repeat' (first
        | refine W.seq ?_
        | refine W.wo ?_
        | refine WO.nil ?_
        | (apply WO.ok; (case e => (simp only [go_sem, Nat.reduceEqDiff, Nat.reduceAdd, reduceIte, t0, t2, t3, t9, hz0, wp, wq, e6]; first | done | with_reducible rfl)))
        | (apply W.branch; (case e => (simp only [go_sem, Nat.reduceEqDiff, Nat.reduceAdd, reduceIte, t0, t2, t3, t9, hz0, wp, wq, e6]; first | done | with_reducible rfl)))
        | refine WD.nil ?_
        | (apply WD.ok; (case e => (simp only [go_sem, Nat.reduceEqDiff, Nat.reduceAdd, reduceIte, t0, t2, t3, t9, hz0, wp, wq, e6]; first | done | with_reducible rfl)); (case hi => first | trivial | (simp only [nx_H]; done)); (case hc => first | rfl | (simp only [eqV, beq_self_eq_true, Bool.and_self, Bool.or_true, Bool.and_true, Option.isSome_some]; done)))
        | with_reducible exact tf
        | intro _)
    apply W.wd
    case hg => kernel_rfl
    repeat' (first
        | refine W.ret ?_
        | refine WD.nil ?_
        | (apply WD.callv; (case e => (simp only [go_sem, Nat.reduceEqDiff, Nat.reduceAdd, reduceIte, t0, t2, t3, t9, q1, hz0, hc]; first | done | with_reducible rfl)); (case c => (simp only [go_sem, Nat.reduceEqDiff, Nat.reduceAdd, reduceIte, t0, t2, t3, t9, q1, hz0, hc]; first | done | with_reducible rfl)); (case hi => first | trivial | (simp only [nx_H]; done)); (case hc => rfl))
        | (apply WD.ok; (case e => (simp only [go_sem, Nat.reduceEqDiff, Nat.reduceAdd, reduceIte, t0, t2, t3, t9, q1, hz0, hc]; first | done | with_reducible rfl)); (case hi => first | trivial | (simp only [nx_H]; done)); (case hc => first | rfl | (simp only [eqV, beq_self_eq_true, Bool.and_self, Bool.or_true, Bool.and_true, Option.isSome_some]; done))))
    exact ⟨rfl, by (simp only [go_sem, Nat.reduceEqDiff, Nat.reduceAdd, reduceIte, td]; first | done | with_reducible rfl), by (simp only [go_sem, Nat.reduceEqDiff, Nat.reduceAdd, reduceIte]; first | done | with_reducible rfl), bn', bs', by simp only [nx_H]; exact k2', by simp only [nx_H]; exact c.ms.trans k3⟩
end
end Go.Proofs.YtehbekgmemebjaaDoorEv
