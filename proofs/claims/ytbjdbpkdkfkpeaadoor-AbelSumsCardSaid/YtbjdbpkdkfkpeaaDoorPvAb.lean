import Derived.Test.YtbjdbpkdkfkpeaaDoorPvAa
import Derived.Test.YtbjdbpkdkfkpeaaDoorAcode
namespace Go.Proofs.YtbjdbpkdkfkpeaaDoorEv
open Go
set_option linter.unusedVariables false
set_option linter.unusedSimpArgs false
attribute [local go_sem] evOp beq_true beq_false List.getElem?_toArray List.getElem?_cons_zero List.getElem?_cons_succ env_tmp env_const env_func env_global nx_get nx_getn nx_H nx_ds nx_df nx_pm get_enter one_ne_zero' zero_ne_one' if_false if_true ite_true ite_false List.getD_cons_zero List.getD_cons_succ Option.map_some Option.map_none Option.bind_some binO unO eqO List.map_toArray List.map_cons List.map_nil Array.append_empty Array.empty_append List.nil_append List.append_nil List.append_toArray List.cons_append ne_eq not_true_eq_false Bool.false_eq_true Bool.not_true Bool.not_false Bool.true_eq_false
theorem KK_call {f : Nat} {args : Array Value} {H : Hp} {fn : AFunc} {r : CR} (hf : compFunc Tryd.prog [0] f = some fn) (hn : ¬ fn.ntmps < args.size)
    (h : W KK fn.body { t := enterT 0 args.toList .nil, H, ds := [], df := false, pm := none } fun ex s => match ex with
      | .normal | .ret => leave KK (compFunc Tryd.prog [0]) fn.results s.ds none s = some r
      | .pan v => leave KK (compFunc Tryd.prog [0]) fn.results s.ds (some v) s = some r
      | .exit _ => False) (hx : f ≠ 13 := by decide) : KK f args H = some r := lim_call (.inl (xo_none _ _ _ hx)) hf hn h
theorem K59 (b n kc : Nat) (H : Hp) (cs : List Value) (u : UT) (ro : Bool) (hg : H.get b = some (.cells cs u ro)) (hb : b < H.size) (hn : 1 ≤ n) (hn2 : n ≤ 1000) (hl : n ≤ cs.length) (hc : (cs.take n).all isCell = true) :
    KK 59 #[.slice (some ⟨b, 0, none⟩) n kc] H = some (.ret (.slice (some ⟨H.size + 1, 0, none⟩) n n) ((H.new (.cells [] ⟨0, 3, true⟩ false)).new (.cells (cs.take n) ⟨1, 3, true⟩ false))) := by
  have hf : Instr.fill (fun i => some (i * 1, 1)) (bCells #[.int .i64 0] (0 * 1)) (#[] : Array (Nat × Value)).toList = some #[] := by kernel_rfl
  have hg' : (H.new (.cells [] ⟨0, 3, true⟩ false)).get b = some (.cells cs u ro) := by rw [Hp.get_new, if_neg (by omega)]; exact hg
  have hs : (H.new (.cells [] ⟨0, 3, true⟩ false)).get H.size = some (.cells [] ⟨0, 3, true⟩ false) := by rw [Hp.get_new, if_pos rfl]
  have happ : appendO (H.new (.cells [] ⟨0, 3, true⟩ false)) 3 1 8 (.slice (some ⟨H.size, 0, none⟩) 0 0) (.slice (some ⟨b, 0, none⟩) n kc) = some (.slice (some ⟨H.size + 1, 0, none⟩) n n, (H.new (.cells [] ⟨0, 3, true⟩ false)).new (.cells (cs.take n) ⟨1, 3, true⟩ false)) := by
    have h1 : sliceCells (H.new (.cells [] ⟨0, 3, true⟩ false)) 1 (.slice (some ⟨b, 0, none⟩) n kc) = some (cs.take n) := by
      simp only [sliceCells, hg']
      rw [if_neg (by omega), if_pos (by omega)]
      simp
    have h2 : sliceCells (H.new (.cells [] ⟨0, 3, true⟩ false)) 1 (.slice (some ⟨H.size, 0, none⟩) 0 0) = some [] := by simp [sliceCells]
    have h3 : killO (H.new (.cells [] ⟨0, 3, true⟩ false)) 3 1 (some ⟨H.size, 0, none⟩) = some (H.new (.cells [] ⟨0, 3, true⟩ false)) := by
      simp [killO, hs]
    have h4 : zO (H.new (.cells [] ⟨0, 3, true⟩ false)) (some ⟨H.size, 0, none⟩) = true := by simp [zO, hs]
    have h5 : (H.new (.cells [] ⟨0, 3, true⟩ false)).size = H.size + 1 := rfl
    unfold appendO
    simp only [lenO, h1, h2, h3, h4, Option.bind_eq_bind, Option.bind_some]
    rw [if_neg (by omega), if_neg (by rw [hc]; simp; omega)]
    simp [h5]
  have h0 : ((none : Option Nat) = some 2) = False := by simp
  refine KK_call a59_eq (by simp [a59]) ?_
  unfold a59
  repeat' (first
      | refine W.seq ?_
      | refine W.wo ?_
      | refine WO.nil ?_
      | (apply WO.callv; (case e => (simp only [go_sem, Nat.reduceEqDiff, Nat.reduceAdd, reduceIte, h0, hf, happ]; first | done | with_reducible rfl)); (case c => (simp only [go_sem, Nat.reduceEqDiff, Nat.reduceAdd, reduceIte, h0, hf, happ]; first | done | with_reducible rfl)))
      | (apply WO.panicv; (case e => (simp only [go_sem, Nat.reduceEqDiff, Nat.reduceAdd, reduceIte, h0, hf, happ]; first | done | with_reducible rfl)))
      | (apply WO.ok; (case e => (simp only [go_sem, Nat.reduceEqDiff, Nat.reduceAdd, reduceIte, h0, hf, happ]; first | done | with_reducible rfl)))
      | (apply WO.guardT; (case hj => (simp only [go_sem, Nat.reduceEqDiff, Nat.reduceAdd, reduceIte, h0, hf, happ]; first | done | with_reducible rfl)))
      | (apply WO.guardF; (case hj => (simp only [go_sem, Nat.reduceEqDiff, Nat.reduceAdd, reduceIte, h0, hf, happ]; first | done | with_reducible rfl)))
      | (apply WO.guardU; (case hj => (simp only [go_sem, Nat.reduceEqDiff, Nat.reduceAdd, reduceIte, h0, hf, happ]; first | done | with_reducible rfl)))
      | refine W.skip ?_
      | refine W.ret ?_
      | refine W.exit ?_
      | refine W.block ?_
      | (apply W.branch; (case e => (simp only [go_sem, Nat.reduceEqDiff, Nat.reduceAdd, reduceIte, h0, hf, happ]; first | done | with_reducible rfl)))
      | refine WD.nil ?_
      | (apply WD.callv; (case e => (simp only [go_sem, Nat.reduceEqDiff, Nat.reduceAdd, reduceIte, h0, hf, happ]; first | done | with_reducible rfl)); (case c => (simp only [go_sem, Nat.reduceEqDiff, Nat.reduceAdd, reduceIte, h0, hf, happ]; first | done | with_reducible rfl)); (case hi => first | trivial | (simp only [nx_H]; done)); (case hc => rfl))
      | (apply WD.ok; (case e => (simp only [go_sem, Nat.reduceEqDiff, Nat.reduceAdd, reduceIte, h0, hf, happ]; first | done | with_reducible rfl)); (case hi => first | trivial | (simp only [nx_H]; done)); (case hc => first | rfl | (simp only [eqV, beq_self_eq_true, Bool.and_self, Bool.or_true, Bool.and_true, Option.isSome_some]; done)))
      | (apply WD.guardT; (case hj => (simp only [go_sem, Nat.reduceEqDiff, Nat.reduceAdd, reduceIte, h0, hf, happ]; first | done | with_reducible rfl)); (case hi => first | trivial | (simp only [nx_H]; done)))
      | (apply WD.guardF; (case hj => (simp only [go_sem, Nat.reduceEqDiff, Nat.reduceAdd, reduceIte, h0, hf, happ]; first | done | with_reducible rfl)); (case hi => first | trivial | (simp only [nx_H]; done)))
      | (apply WD.guardU; (case hj => (simp only [go_sem, Nat.reduceEqDiff, Nat.reduceAdd, reduceIte, h0, hf, happ]; first | done | with_reducible rfl)); (case hi => first | trivial | (simp only [nx_H]; done)))
      | with_reducible exact tf
      | with_reducible exact ft
      | intro _)
  exact leave0 (by (simp only [go_sem, Nat.reduceEqDiff, Nat.reduceAdd, reduceIte]; first | done | with_reducible rfl)) (res1 (by (simp only [go_sem, Nat.reduceEqDiff, Nat.reduceAdd, reduceIte]; first | done | with_reducible rfl)) (by intro c h; cases h)) (by (simp only [go_sem, Nat.reduceEqDiff, Nat.reduceAdd, reduceIte]; first | done | with_reducible rfl))
theorem res2t {s : St} {a b : Nat} {v w : Value} (h1 : s.get a = v) (h2 : s.get b = w) (hv : ∀ c, v ≠ .chan c) (hw : ∀ c, w ≠ .chan c) : resultsO s [.tmp a, .tmp b] = some (.tuple #[v, w]) := by
  have e1 : resO s (.tmp a) = some v := by
    simp only [resO]
    rw [h1]
    cases v with
    | chan c => exact absurd rfl (hv c)
    | _ => rfl
  have e2 : resO s (.tmp b) = some w := by
    simp only [resO]
    rw [h2]
    cases w with
    | chan c => exact absurd rfl (hw c)
    | _ => rfl
  simp only [resultsO, List.mapM_cons, List.mapM_nil, e1, e2, Option.bind_eq_bind, Option.bind_some, Option.pure_def, Option.map_some]
theorem K33a (k : Int) (w : ByteArray) (H : Hp) (hG : GG H) (hc : checkK k w ≠ 0) : ∃ H', KK 33 #[.int .i64 k, .string w] H = some (.ret (.tuple #[.slice none 0 0, .int .i64 1]) H') ∧ Keep H H' := by
  obtain ⟨H', h1, h2⟩ := GK_check xo_none k w H hG
  have h1' : KK 48 #[.int .i64 k, .string w] H = some (.ret (.int .i64 (checkK k w)) H') := h1
  have hne : (checkK k w != 0) = true := by simpa using hc
  refine ⟨H', KK_call a33_eq (by simp [a33]) ?_, h2⟩
  unfold a33
  repeat' (first
      | refine W.seq ?_
      | refine W.wo ?_
      | refine WO.nil ?_
      | (apply WO.callv; (case e => (simp only [go_sem, Nat.reduceEqDiff, Nat.reduceAdd, reduceIte, h1', hne]; first | done | with_reducible rfl)); (case c => (simp only [go_sem, Nat.reduceEqDiff, Nat.reduceAdd, reduceIte, h1', hne]; first | done | with_reducible rfl)))
      | (apply WO.panicv; (case e => (simp only [go_sem, Nat.reduceEqDiff, Nat.reduceAdd, reduceIte, h1', hne]; first | done | with_reducible rfl)))
      | (apply WO.ok; (case e => (simp only [go_sem, Nat.reduceEqDiff, Nat.reduceAdd, reduceIte, h1', hne]; first | done | with_reducible rfl)))
      | (apply WO.guardT; (case hj => (simp only [go_sem, Nat.reduceEqDiff, Nat.reduceAdd, reduceIte, h1', hne]; first | done | with_reducible rfl)))
      | (apply WO.guardF; (case hj => (simp only [go_sem, Nat.reduceEqDiff, Nat.reduceAdd, reduceIte, h1', hne]; first | done | with_reducible rfl)))
      | (apply WO.guardU; (case hj => (simp only [go_sem, Nat.reduceEqDiff, Nat.reduceAdd, reduceIte, h1', hne]; first | done | with_reducible rfl)))
      | refine W.skip ?_
      | refine W.ret ?_
      | refine W.exit ?_
      | refine W.block ?_
      | (apply W.branch; (case e => (simp only [go_sem, Nat.reduceEqDiff, Nat.reduceAdd, reduceIte, h1', hne]; first | done | with_reducible rfl)))
      | refine WD.nil ?_
      | (apply WD.callv; (case e => (simp only [go_sem, Nat.reduceEqDiff, Nat.reduceAdd, reduceIte, h1', hne]; first | done | with_reducible rfl)); (case c => (simp only [go_sem, Nat.reduceEqDiff, Nat.reduceAdd, reduceIte, h1', hne]; first | done | with_reducible rfl)); (case hi => first | trivial | (simp only [nx_H]; done)); (case hc => rfl))
      | (apply WD.ok; (case e => (simp only [go_sem, Nat.reduceEqDiff, Nat.reduceAdd, reduceIte, h1', hne]; first | done | with_reducible rfl)); (case hi => first | trivial | (simp only [nx_H]; done)); (case hc => first | rfl | (simp only [eqV, beq_self_eq_true, Bool.and_self, Bool.or_true, Bool.and_true, Option.isSome_some]; done)))
      | (apply WD.guardT; (case hj => (simp only [go_sem, Nat.reduceEqDiff, Nat.reduceAdd, reduceIte, h1', hne]; first | done | with_reducible rfl)); (case hi => first | trivial | (simp only [nx_H]; done)))
      | (apply WD.guardF; (case hj => (simp only [go_sem, Nat.reduceEqDiff, Nat.reduceAdd, reduceIte, h1', hne]; first | done | with_reducible rfl)); (case hi => first | trivial | (simp only [nx_H]; done)))
      | (apply WD.guardU; (case hj => (simp only [go_sem, Nat.reduceEqDiff, Nat.reduceAdd, reduceIte, h1', hne]; first | done | with_reducible rfl)); (case hi => first | trivial | (simp only [nx_H]; done)))
      | with_reducible exact tf
      | with_reducible exact ft
      | intro _)
  exact leave0 (by (simp only [go_sem, Nat.reduceEqDiff, Nat.reduceAdd, reduceIte]; first | done | with_reducible rfl)) (res2t (by (simp only [go_sem, Nat.reduceEqDiff, Nat.reduceAdd, reduceIte]; first | done | with_reducible rfl)) (by (simp only [go_sem, Nat.reduceEqDiff, Nat.reduceAdd, reduceIte]; first | done | with_reducible rfl)) (by intro c h; cases h) (by intro c h; cases h)) (by (simp only [go_sem, Nat.reduceEqDiff, Nat.reduceAdd, reduceIte]; first | done | with_reducible rfl))
theorem K33b (k : Int) (w : ByteArray) (H H1 : Hp) (L : List Int) (hk : 1 ≤ k ∧ k ≤ 8) (hL : L.length = 8) (h48 : KK 48 #[.int .i64 k, .string w] H = some (.ret (.int .i64 0) H1)) (H2 : Hp) (h51 : KK 51 #[.string w] H1 = some (.ret (.agg (L.map (Value.int .i64)).toArray) H2)) :
    ∃ H3, KK 33 #[.int .i64 k, .string w] H = some (.ret (.tuple #[.slice (some ⟨H2.size + 2, 0, none⟩) k.toNat k.toNat, .int .i64 0]) H3) ∧ Keep H2 H3 ∧ H3.get (H2.size + 2) = some (.cells ((L.take k.toNat).map (Value.int .i64)) ⟨1, 3, true⟩ false) ∧ H2.size + 2 < H3.size := by
  obtain ⟨n, rfl⟩ : ∃ n : Nat, k = n := ⟨k.toNat, by omega⟩
  have hlen : (L.map (Value.int .i64)).length = 8 := by simpa using hL
  have hall : (L.map (Value.int .i64)).all isCell = true := by simp [List.all_map, isCell]
  have hst : storeO (H2.new (.cells [.int .i64 0, .int .i64 0, .int .i64 0, .int .i64 0, .int .i64 0, .int .i64 0, .int .i64 0, .int .i64 0] ⟨0, 66, true⟩ false)) 8 (.agg (L.map (Value.int .i64)).toArray) (.pointer (some ⟨H2.size, 0, none⟩)) = some ((H2.new (.cells [.int .i64 0, .int .i64 0, .int .i64 0, .int .i64 0, .int .i64 0, .int .i64 0, .int .i64 0, .int .i64 0] ⟨0, 66, true⟩ false)).put H2.size (.cells (L.map (Value.int .i64)) ⟨0, 66, true⟩ false)) := by
    have hs : (H2.new (.cells [.int .i64 0, .int .i64 0, .int .i64 0, .int .i64 0, .int .i64 0, .int .i64 0, .int .i64 0, .int .i64 0] ⟨0, 66, true⟩ false)).get H2.size = some (.cells [.int .i64 0, .int .i64 0, .int .i64 0, .int .i64 0, .int .i64 0, .int .i64 0, .int .i64 0, .int .i64 0] ⟨0, 66, true⟩ false) := by rw [Hp.get_new, if_pos rfl]
    have hcs : (Value.agg (L.map (Value.int .i64)).toArray).cells.toList = L.map (Value.int .i64) := by simp [Value.cells]
    have hcz : (Value.agg (L.map (Value.int .i64)).toArray).cells.size = 8 := by simp [Value.cells, hL]
    simp only [storeO, hs]
    rw [if_pos ⟨hcz, trivial, by simp, by simpa [Value.cells] using hall⟩, hcs]
    congr 2
    match L, hL with
    | [a, b, c, d, e, f, g, h], _ => rfl
  have hg2 : ((H2.new (.cells [.int .i64 0, .int .i64 0, .int .i64 0, .int .i64 0, .int .i64 0, .int .i64 0, .int .i64 0, .int .i64 0] ⟨0, 66, true⟩ false)).put H2.size (.cells (L.map (Value.int .i64)) ⟨0, 66, true⟩ false)).get H2.size = some (.cells (L.map (Value.int .i64)) ⟨0, 66, true⟩ false) := by rw [Hp.get_put, if_pos rfl]
  have hb : boundsO 8 8 none (some (.int .i64 (n : Int))) none = some (0, n, 8) := by
    have h : boundO 0 8 (.int .i64 (n : Int)) = some n := by
      simp only [boundO]
      rw [if_pos ⟨by omega, by omega⟩]
      simp
    simp [boundsO, optBound, h]
  have hz : ((H2.new (.cells [.int .i64 0, .int .i64 0, .int .i64 0, .int .i64 0, .int .i64 0, .int .i64 0, .int .i64 0, .int .i64 0] ⟨0, 66, true⟩ false)).put H2.size (.cells (L.map (Value.int .i64)) ⟨0, 66, true⟩ false)).size = H2.size + 1 := rfl
  have h59 := K59 H2.size n 8 ((H2.new (.cells [.int .i64 0, .int .i64 0, .int .i64 0, .int .i64 0, .int .i64 0, .int .i64 0, .int .i64 0, .int .i64 0] ⟨0, 66, true⟩ false)).put H2.size (.cells (L.map (Value.int .i64)) ⟨0, 66, true⟩ false)) _ _ _ hg2 (by rw [hz]; omega) (by omega) (by omega) (by rw [hlen]; omega) (by
    rw [List.all_eq_true] at hall ⊢
    exact fun x hx => hall x (List.mem_of_mem_take hx))
  rw [hz] at h59
  have hne : ((0 : Int) != 0) = false := rfl
  have e1 : (0 : Nat) + 0 * 1 = 0 := rfl
  have e2 : n - 0 = n := rfl
  have e3 : (8 : Nat) - 0 = 8 := rfl
  rw [Int.toNat_natCast]
  refine ⟨(((H2.new (.cells [.int .i64 0, .int .i64 0, .int .i64 0, .int .i64 0, .int .i64 0, .int .i64 0, .int .i64 0, .int .i64 0] ⟨0, 66, true⟩ false)).put H2.size (.cells (L.map (Value.int .i64)) ⟨0, 66, true⟩ false)).new (.cells [] ⟨0, 3, true⟩ false)).new (.cells ((L.map (Value.int .i64)).take n) ⟨1, 3, true⟩ false), KK_call a33_eq (by simp [a33]) ?_, ?_, ?_, ?_⟩
  · unfold a33
    repeat' (first
        | refine W.seq ?_
        | refine W.wo ?_
        | refine WO.nil ?_
        | (apply WO.callv; (case e => (simp only [go_sem, Nat.reduceEqDiff, Nat.reduceAdd, reduceIte, h48, hne, h51, hst, hg2, hb, e1, e2, e3, h59]; first | done | with_reducible rfl)); (case c => (simp only [go_sem, Nat.reduceEqDiff, Nat.reduceAdd, reduceIte, h48, hne, h51, hst, hg2, hb, e1, e2, e3, h59]; first | done | with_reducible rfl)))
        | (apply WO.panicv; (case e => (simp only [go_sem, Nat.reduceEqDiff, Nat.reduceAdd, reduceIte, h48, hne, h51, hst, hg2, hb, e1, e2, e3, h59]; first | done | with_reducible rfl)))
        | (apply WO.ok; (case e => (simp only [go_sem, Nat.reduceEqDiff, Nat.reduceAdd, reduceIte, h48, hne, h51, hst, hg2, hb, e1, e2, e3, h59]; first | done | with_reducible rfl)))
        | (apply WO.guardT; (case hj => (simp only [go_sem, Nat.reduceEqDiff, Nat.reduceAdd, reduceIte, h48, hne, h51, hst, hg2, hb, e1, e2, e3, h59]; first | done | with_reducible rfl)))
        | (apply WO.guardF; (case hj => (simp only [go_sem, Nat.reduceEqDiff, Nat.reduceAdd, reduceIte, h48, hne, h51, hst, hg2, hb, e1, e2, e3, h59]; first | done | with_reducible rfl)))
        | (apply WO.guardU; (case hj => (simp only [go_sem, Nat.reduceEqDiff, Nat.reduceAdd, reduceIte, h48, hne, h51, hst, hg2, hb, e1, e2, e3, h59]; first | done | with_reducible rfl)))
        | refine W.skip ?_
        | refine W.ret ?_
        | refine W.exit ?_
        | refine W.block ?_
        | (apply W.branch; (case e => (simp only [go_sem, Nat.reduceEqDiff, Nat.reduceAdd, reduceIte, h48, hne, h51, hst, hg2, hb, e1, e2, e3, h59]; first | done | with_reducible rfl)))
        | refine WD.nil ?_
        | (apply WD.callv; (case e => (simp only [go_sem, Nat.reduceEqDiff, Nat.reduceAdd, reduceIte, h48, hne, h51, hst, hg2, hb, e1, e2, e3, h59]; first | done | with_reducible rfl)); (case c => (simp only [go_sem, Nat.reduceEqDiff, Nat.reduceAdd, reduceIte, h48, hne, h51, hst, hg2, hb, e1, e2, e3, h59]; first | done | with_reducible rfl)); (case hi => first | trivial | (simp only [nx_H]; done)); (case hc => rfl))
        | (apply WD.ok; (case e => (simp only [go_sem, Nat.reduceEqDiff, Nat.reduceAdd, reduceIte, h48, hne, h51, hst, hg2, hb, e1, e2, e3, h59]; first | done | with_reducible rfl)); (case hi => first | trivial | (simp only [nx_H]; done)); (case hc => first | rfl | (simp only [eqV, beq_self_eq_true, Bool.and_self, Bool.or_true, Bool.and_true, Option.isSome_some]; done)))
        | (apply WD.guardT; (case hj => (simp only [go_sem, Nat.reduceEqDiff, Nat.reduceAdd, reduceIte, h48, hne, h51, hst, hg2, hb, e1, e2, e3, h59]; first | done | with_reducible rfl)); (case hi => first | trivial | (simp only [nx_H]; done)))
        | (apply WD.guardF; (case hj => (simp only [go_sem, Nat.reduceEqDiff, Nat.reduceAdd, reduceIte, h48, hne, h51, hst, hg2, hb, e1, e2, e3, h59]; first | done | with_reducible rfl)); (case hi => first | trivial | (simp only [nx_H]; done)))
        | (apply WD.guardU; (case hj => (simp only [go_sem, Nat.reduceEqDiff, Nat.reduceAdd, reduceIte, h48, hne, h51, hst, hg2, hb, e1, e2, e3, h59]; first | done | with_reducible rfl)); (case hi => first | trivial | (simp only [nx_H]; done)))
        | with_reducible exact tf
        | with_reducible exact ft
        | intro _)
    exact leave0 (by (simp only [go_sem, Nat.reduceEqDiff, Nat.reduceAdd, reduceIte]; first | done | with_reducible rfl)) (res2t (by (simp only [go_sem, Nat.reduceEqDiff, Nat.reduceAdd, reduceIte]; first | done | with_reducible rfl)) (by (simp only [go_sem, Nat.reduceEqDiff, Nat.reduceAdd, reduceIte]; first | done | with_reducible rfl)) (by intro c h; cases h) (by intro c h; cases h)) (by (simp only [go_sem, Nat.reduceEqDiff, Nat.reduceAdd, reduceIte]; first | done | with_reducible rfl))
  · exact ((((Keep.new H2 _).put (Nat.le_refl _) _).trans (Keep.new _ _)).trans (Keep.new _ _))
  · rw [Hp.get_new, if_pos (by simp [Hp.size_new, hz]), List.map_take]
  · simp [Hp.size_new, hz]
end Go.Proofs.YtbjdbpkdkfkpeaaDoorEv
