import Derived.Test.YtehbekgmemebjaaDoorPvSum
namespace Go.Proofs.YtehbekgmemebjaaDoorEv
open Go Go.RowKit Go.Proofs.YtehbekgmemebjaaDoor.PAll Go.Proofs.YtehbekgmemebjaaDoor.PAll.H Go.Proofs.YtehbekgmemebjaaDoorW.PrintWords Go.Proofs.YtehbekgmemebjaaDoorW.PrintLast Go.Proofs.YtehbekgmemebjaaDoorW.PrintMore
set_option linter.unusedVariables false
set_option linter.unusedSimpArgs false
attribute [local go_sem] evOp beq_true beq_false List.getElem?_toArray List.getElem?_cons_zero List.getElem?_cons_succ env_tmp env_const env_func env_global nx_get nx_getn nx_H nx_ds nx_df nx_pm get_enter one_ne_zero' zero_ne_one' if_false if_true ite_true ite_false List.getD_cons_zero List.getD_cons_succ Option.map_some Option.map_none Option.bind_some binO unO eqO List.map_toArray List.map_cons List.map_nil Array.append_empty Array.empty_append List.nil_append List.append_nil List.append_toArray List.cons_append ne_eq not_true_eq_false Bool.false_eq_true Bool.not_true Bool.not_false Bool.true_eq_false
theorem app24 {H9 : Hp} {e b : Nat} {v : List Int} {u : UT} {ro : Bool} (he : H9.get e = some (.cells [] ⟨0, 3, true⟩ false)) (hb : H9.get b = some (.cells (ints v) u ro)) (hv : v.length = 8) :
    appendO H9 3 1 8 (.slice (some ⟨e, 0, none⟩) 0 0) (.slice (some ⟨b, 0, none⟩) 8 8) = some (.slice (some ⟨H9.size, 0, none⟩) 8 8, H9.new (.cells (ints v) ⟨1, 3, true⟩ false)) := by
  have hl : (ints v).length = 8 := by unfold ints; rw [List.length_map]; exact hv
  have hc : (ints v).all isCell = true := by
    unfold ints
    rw [List.all_eq_true]
    intro x hx
    obtain ⟨y, _, rfl⟩ := List.mem_map.1 hx
    rfl
  have ht : (ints v).take 8 = ints v := List.take_of_length_le (by omega)
  unfold appendO
  simp [lenO, sliceCells, hb, he, killO, zO, hl, ht]
  rw [List.all_eq_true] at hc
  exact hc
theorem res2 {st : St} {a b : Nat} {v w : Value} (e1 : st.get a = v) (e2 : st.get b = w) (n1 : ∀ c, v ≠ .chan c) (n2 : ∀ c, w ≠ .chan c) : resultsO st [.tmp a, .tmp b] = some (.tuple #[v, w]) := by
  have h1 : resO st (.tmp a) = some v := by simp only [resO, e1]
  have h2 : resO st (.tmp b) = some w := by simp only [resO, e2]
  simp only [resultsO, List.mapM_cons, h1, h2, List.mapM_nil, Option.bind_eq_bind, Option.bind_some, Option.pure_def, Option.map_some]
def sumsV (l : List S55) : List Int := if l.length = 0 then List.replicate 8 0 else (vecs l).getD (l.length - 1) []
section
variable {l0 : List S55} {bs : Option Addr} {cp : Nat} {H : Hp}
set_option maxHeartbeats 8000000 in
theorem K24 (hL : Let H) (hA : l0 = [] ∨ ∃ b o sp bc u ro rst, bs = some ⟨b, o, sp⟩ ∧ b < H.size ∧ H.get b = some (.cells bc u ro) ∧ bc.drop o = l0.flatMap enc55 ++ rst) : ∃ H', Keep H H' ∧
    ((∃ out b u ro, (u.u = 0 ∨ u.u = 1) ∧ lens l0 = some out ∧ H.size ≤ b ∧ b < H'.size ∧ K 24 #[.slice bs l0.length cp] H = some (.ret (.tuple #[.slice (some ⟨b, 0, none⟩) 8 8, .int .i64 0]) H') ∧ H'.get b = some (.cells (ints (sumsV l0)) u ro)) ∨
     (lens l0 = none ∧ K 24 #[.slice bs l0.length cp] H = some (.ret (.tuple #[.slice none 0 0, .int .i64 20]) H'))) := by
  obtain ⟨N0, hN⟩ : ∃ N0, H.size = N0 := ⟨_, rfl⟩
  obtain ⟨H1, hH1⟩ : ∃ H1, H.new (.cells [.slice bs l0.length cp] ⟨0, 22, true⟩ false) = H1 := ⟨_, rfl⟩
  have hN1 : H1.size = N0 + 1 := by rw [← hH1, Hp.size_new, hN]
  have k1 : Keep H H1 := by rw [← hH1]; exact Keep.new _ _
  have g1 : H1.get N0 = some (.cells [.slice bs l0.length cp] ⟨0, 22, true⟩ false) := by rw [← hH1, Hp.get_new, if_pos hN]
  have l1 := get_load g1
  have hA1 : l0 = [] ∨ ∃ b o sp bc u ro rst, bs = some ⟨b, o, sp⟩ ∧ b < H1.size ∧ H1.get b = some (.cells bc u ro) ∧ bc.drop o = l0.flatMap enc55 ++ rst := hA.imp id fun ⟨b, o, sp, bc, u, ro, rst, e1, e2, e3, e4⟩ => ⟨b, o, sp, bc, u, ro, rst, e1, by have := k1.1; omega, (k1.2 b e2).trans e3, e4⟩
  obtain ⟨H2, k2, hcase⟩ := K31 (cp := cp) (hL.keep k1) hA1
  rcases hcase with ⟨out, bl, a1, a2, a3, a4, a5, a6, a7⟩ | ⟨a1, a2⟩
  · obtain ⟨M, hM⟩ : ∃ M, H2.size = M := ⟨_, rfl⟩
    have hMN : N0 + 1 ≤ M := by have := k2.1; omega
    obtain ⟨H3, hH3⟩ : ∃ H3, H2.new (.map [] 0) = H3 := ⟨_, rfl⟩
    have hM3 : H3.size = M + 1 := by rw [← hH3, Hp.size_new, hM]
    obtain ⟨H4, hH4⟩ : ∃ H4, H3.new (.cells [.map none] ⟨0, 69, true⟩ false) = H4 := ⟨_, rfl⟩
    have hM4 : H4.size = M + 2 := by rw [← hH4, Hp.size_new, hM3]
    obtain ⟨H5, hH5⟩ : ∃ H5, H4.put (M + 1) (.cells [.map (some M)] ⟨0, 69, true⟩ false) = H5 := ⟨_, rfl⟩
    have hM5 : H5.size = M + 2 := by rw [← hH5, Hp.size_put, hM4]
    obtain ⟨H6, hH6⟩ : ∃ H6, H5.new (.cells [.nilFunc] ⟨0, 70, true⟩ false) = H6 := ⟨_, rfl⟩
    have hM6 : H6.size = M + 3 := by rw [← hH6, Hp.size_new, hM5]
    obtain ⟨H7, hH7⟩ : ∃ H7, H6.put (M + 2) (.cells [.func (.func 45) #[] #[pt (M + 1), pt N0, pt (M + 2)]] ⟨0, 70, true⟩ false) = H7 := ⟨_, rfl⟩
    have hM7 : H7.size = M + 3 := by rw [← hH7, Hp.size_put, hM6]
    have k3 : Keep H2 H7 := by
      rw [← hH7, ← hH6, ← hH5, ← hH4, ← hH3]
      exact ((((Keep.new _ _).trans (Keep.new _ _)).put (by omega) _).trans (Keep.new _ _)).put (by omega) _
    have k7 : Keep H H7 := (k1.trans k2).trans k3
    have s1 : storeO H4 1 (.map (some M)) (.pointer (some ⟨M + 1, 0, none⟩)) = some H5 := by
      rw [← hH5]
      simp only [storeO, ← hH4, Hp.get_new, hM3]
      simp [Value.cells, isCell, setL]
    have s2 : storeO H6 1 (.func (.func 45) #[] #[.pointer (some ⟨M + 1, 0, none⟩), .pointer (some ⟨N0, 0, none⟩), .pointer (some ⟨M + 2, 0, none⟩)]) (.pointer (some ⟨M + 2, 0, none⟩)) = some H7 := by
      rw [← hH7]
      simp only [storeO, ← hH6, Hp.get_new, hM5]
      simp [Value.cells, isCell, setL]
    have l7 : loadO H7 (.pointer (some ⟨N0, 0, none⟩)) = some (.slice bs l0.length cp) := get_load ((k3.2 N0 (by omega)).trans ((k2.2 N0 (by omega)).trans g1))
    have o7 : H7.get (M + 2) = some (.cells [.func (.func 45) #[] #[pt (M + 1), pt N0, pt (M + 2)]] ⟨0, 70, true⟩ false) := by rw [← hH7, Hp.get_put, if_pos rfl]
    have lo7 := get_load o7
    have hcap : (0 ≤ (8 : Int) ∧ (8 : Int) ≤ 8 ∧ (8 : Int) * ((8 : Nat) : Int) ≤ 140737488355328 ∧ (8 : Int) ≤ 140737488355328) = True := by simp
    have hbc : (bCells #[.int .i64 0] ((8 : Int).toNat * 1)).toList = List.replicate 8 (.int .i64 0) := bCells_int 8
    have z0 : ((0 : Int) != 0) = false := rfl
    by_cases hz : l0.length = 0
    · have e0 : (((l0.length : Nat) : Int) == 0) = true := by simp [hz]
      obtain ⟨H8, hH8⟩ : ∃ H8, H7.new (.cells (List.replicate 8 (.int .i64 0)) ⟨0, 3, true⟩ false) = H8 := ⟨_, rfl⟩
      have k8 : Keep H H8 := by rw [← hH8]; exact k7.trans (Keep.new _ _)
      refine ⟨H8, k8,   .inl ⟨out, M + 3, ⟨0, 3, true⟩, false, .inl rfl, a1, by omega, by rw [← hH8, Hp.size_new, hM7]; omega, K_call a24_eq (by simp [a24]) ?_, ?_⟩⟩
      · unfold a24
        repeat' (first
            | refine W.seq ?_
            | refine W.wo ?_
            | refine WO.nil ?_
            | (apply WO.callv; (case e => (simp only [go_sem, Nat.reduceEqDiff, Nat.reduceAdd, reduceIte, hN, hH1, l1, a4, z0, hM, hH3, hM3, hH4, s1, hM5, hH6, s2, l7, e0, hcap, hbc, hM7, hH8]; first | done | with_reducible rfl)); (case c => (simp only [go_sem, Nat.reduceEqDiff, Nat.reduceAdd, reduceIte, hN, hH1, l1, a4, z0, hM, hH3, hM3, hH4, s1, hM5, hH6, s2, l7, e0, hcap, hbc, hM7, hH8]; first | done | with_reducible rfl)))
            | (apply WO.panicv; (case e => (simp only [go_sem, Nat.reduceEqDiff, Nat.reduceAdd, reduceIte, hN, hH1, l1, a4, z0, hM, hH3, hM3, hH4, s1, hM5, hH6, s2, l7, e0, hcap, hbc, hM7, hH8]; first | done | with_reducible rfl)))
            | (apply WO.ok; (case e => (simp only [go_sem, Nat.reduceEqDiff, Nat.reduceAdd, reduceIte, hN, hH1, l1, a4, z0, hM, hH3, hM3, hH4, s1, hM5, hH6, s2, l7, e0, hcap, hbc, hM7, hH8]; first | done | with_reducible rfl)))
            | (apply WO.guardT; (case hj => (simp only [go_sem, Nat.reduceEqDiff, Nat.reduceAdd, reduceIte, hN, hH1, l1, a4, z0, hM, hH3, hM3, hH4, s1, hM5, hH6, s2, l7, e0, hcap, hbc, hM7, hH8]; first | done | with_reducible rfl)))
            | (apply WO.guardF; (case hj => (simp only [go_sem, Nat.reduceEqDiff, Nat.reduceAdd, reduceIte, hN, hH1, l1, a4, z0, hM, hH3, hM3, hH4, s1, hM5, hH6, s2, l7, e0, hcap, hbc, hM7, hH8]; first | done | with_reducible rfl)))
            | (apply WO.guardU; (case hj => (simp only [go_sem, Nat.reduceEqDiff, Nat.reduceAdd, reduceIte, hN, hH1, l1, a4, z0, hM, hH3, hM3, hH4, s1, hM5, hH6, s2, l7, e0, hcap, hbc, hM7, hH8]; first | done | with_reducible rfl)))
            | refine W.skip ?_
            | refine W.ret ?_
            | refine W.exit ?_
            | refine W.block ?_
            | (apply W.branch; (case e => (simp only [go_sem, Nat.reduceEqDiff, Nat.reduceAdd, reduceIte, hN, hH1, l1, a4, z0, hM, hH3, hM3, hH4, s1, hM5, hH6, s2, l7, e0, hcap, hbc, hM7, hH8]; first | done | with_reducible rfl)))
            | refine WD.nil ?_
            | (apply WD.callv; (case e => (simp only [go_sem, Nat.reduceEqDiff, Nat.reduceAdd, reduceIte, hN, hH1, l1, a4, z0, hM, hH3, hM3, hH4, s1, hM5, hH6, s2, l7, e0, hcap, hbc, hM7, hH8]; first | done | with_reducible rfl)); (case c => (simp only [go_sem, Nat.reduceEqDiff, Nat.reduceAdd, reduceIte, hN, hH1, l1, a4, z0, hM, hH3, hM3, hH4, s1, hM5, hH6, s2, l7, e0, hcap, hbc, hM7, hH8]; first | done | with_reducible rfl)); (case hi => first | trivial | (simp only [nx_H]; done)); (case hc => rfl))
            | (apply WD.ok; (case e => (simp only [go_sem, Nat.reduceEqDiff, Nat.reduceAdd, reduceIte, hN, hH1, l1, a4, z0, hM, hH3, hM3, hH4, s1, hM5, hH6, s2, l7, e0, hcap, hbc, hM7, hH8]; first | done | with_reducible rfl)); (case hi => first | trivial | (simp only [nx_H]; done)); (case hc => first | rfl | (simp only [eqV, beq_self_eq_true, Bool.and_self, Bool.or_true, Bool.and_true, Option.isSome_some]; done)))
            | (apply WD.guardT; (case hj => (simp only [go_sem, Nat.reduceEqDiff, Nat.reduceAdd, reduceIte, hN, hH1, l1, a4, z0, hM, hH3, hM3, hH4, s1, hM5, hH6, s2, l7, e0, hcap, hbc, hM7, hH8]; first | done | with_reducible rfl)); (case hi => first | trivial | (simp only [nx_H]; done)))
            | (apply WD.guardF; (case hj => (simp only [go_sem, Nat.reduceEqDiff, Nat.reduceAdd, reduceIte, hN, hH1, l1, a4, z0, hM, hH3, hM3, hH4, s1, hM5, hH6, s2, l7, e0, hcap, hbc, hM7, hH8]; first | done | with_reducible rfl)); (case hi => first | trivial | (simp only [nx_H]; done)))
            | (apply WD.guardU; (case hj => (simp only [go_sem, Nat.reduceEqDiff, Nat.reduceAdd, reduceIte, hN, hH1, l1, a4, z0, hM, hH3, hM3, hH4, s1, hM5, hH6, s2, l7, e0, hcap, hbc, hM7, hH8]; first | done | with_reducible rfl)); (case hi => first | trivial | (simp only [nx_H]; done)))
            | with_reducible exact tf
            | with_reducible exact ft
            | intro _)
        exact leave0 (by (simp only [go_sem, Nat.reduceEqDiff, Nat.reduceAdd, reduceIte]; first | done | with_reducible rfl)) (res2 (by (simp only [go_sem, Nat.reduceEqDiff, Nat.reduceAdd, reduceIte]; first | done | rfl)) (by (simp only [go_sem, Nat.reduceEqDiff, Nat.reduceAdd, reduceIte]; first | done | with_reducible rfl)) (by intro c h; cases h) (by intro c h; cases h)) (by (simp only [go_sem, Nat.reduceEqDiff, Nat.reduceAdd, reduceIte]; first | done | with_reducible rfl))
      · rw [← hH8, Hp.get_new, if_pos hM7]
        unfold sumsV
        rw [if_pos hz]
        rfl
    · have e0 : (((l0.length : Nat) : Int) == 0) = false := by rw [beq_eq_false_iff_ne]; omega
      obtain ⟨b0, o0, sp0, bc, u0, ro0, rst, hbs, hb0, eb0, hdr⟩ := hA.resolve_left (by rintro rfl; exact hz rfl)
      have hle := (rope_of a1).le
      have hS : SInv l0 bs cp (M + 1) N0 (M + 2) M (fun _ => False) H7 := by
        refine ⟨?_, ⟨⟨0, 69, true⟩, false, ?_⟩, ⟨_, _, (k3.2 N0 (by omega)).trans ((k2.2 N0 (by omega)).trans g1)⟩, ⟨_, _, o7⟩, ⟨[], 0, ?_, fun e he => by cases he⟩, by omega, by omega, by omega, by omega, by omega, .inr ⟨b0, o0, sp0, bc, u0, ro0, rst, hbs, by omega, by omega, (k7.2 b0 hb0).trans eb0, hdr⟩, fun c hc => hc.elim⟩
        · obtain ⟨h1, u, ro, h2⟩ := hL
          exact ⟨by omega, u, ro, (k7.2 0 h1).trans h2⟩
        · rw [← hH7, ← hH6, ← hH5]
          simp only [Hp.get_put, Hp.get_new, Hp.size_put, hM4]
          rw [if_neg (by omega), if_neg (by omega)]
          simp
        · rw [← hH7, ← hH6, ← hH5, ← hH4, ← hH3]
          simp only [Hp.get_put, Hp.get_new, Hp.size_put, Hp.size_new, hM]
          rw [if_neg (by omega), if_neg (by omega), if_neg (by omega), if_neg (by omega)]
          simp
      obtain ⟨H8, hH8⟩ : ∃ H8, H7.new (.cells [] ⟨0, 3, true⟩ false) = H8 := ⟨_, rfl⟩
      have hM8 : H8.size = M + 4 := by rw [← hH8, Hp.size_new, hM7]
      have kx8 : KeepX M H7 H8 := by rw [← hH8]; exact KeepX.new _ _ _
      have hS8 : SInv l0 bs cp (M + 1) N0 (M + 2) M (fun c => False ∨ c = M + 3) H8 := by
        have h8m : H8.get M = H7.get M := by rw [← hH8, Hp.get_new, if_neg (by omega)]
        have hS' := hS.keepM kx8 h8m
        refine hS'.more (by omega) fun es c e1 e he b hb => ?_
        obtain ⟨es7, c7, e7, ok7⟩ := hS.m
        rw [h8m, e7] at e1
        cases e1
        obtain ⟨j, b', u', ro', q1, q2, q3, q4, q5, q6⟩ := ok7 e he
        rw [q2] at hb
        simp only [Value.slice.injEq, Option.some.injEq, Addr.mk.injEq, and_true] at hb
        omega
      obtain ⟨b, H9, u, ro, hcall, kx9, hS9, hb9, hbm, hbad, hg9⟩ := K45 (rope_of a1) (l0.length - 1) (by omega) _ H8 hS8
      have en : ((l0.length - 1 : Nat) : Int) = ((l0.length : Nat) : Int) - 1 := by omega
      rw [en] at hcall
      have hw : IntKind.i64.wrap (((l0.length : Nat) : Int) - 1) = ((l0.length : Nat) : Int) - 1 := by simp [IntKind.wrap, IntKind.bits, IntKind.signed]; omega
      have ge8 : H8.get (M + 3) = some (.cells [] ⟨0, 3, true⟩ false) := by rw [← hH8, Hp.get_new, if_pos hM7]
      have ge9 : H9.get (M + 3) = some (.cells [] ⟨0, 3, true⟩ false) := (kx9.2 (M + 3) (by omega) (by omega)).trans ge8
      have hvl : ((vecs l0).getD (l0.length - 1) []).length = 8 := by
        have : l0.length - 1 < l0.length := by omega
        rw [vecs_at (List.getElem?_eq_getElem this)]
        exact vecOf_len _ _
      have happ := app24 ge9 hg9 hvl
      obtain ⟨H10, hH10⟩ : ∃ H10, H9.new (.cells (ints ((vecs l0).getD (l0.length - 1) [])) ⟨1, 3, true⟩ false) = H10 := ⟨_, rfl⟩
      rw [hH10] at happ
      have hfl : Instr.fill (fun x => some (x * 1, 1)) (bCells #[.int .i64 0] (0 * 1)) [] = some (bCells #[.int .i64 0] (0 * 1)) := rfl
      have hb0' : (bCells #[.int .i64 0] (0 * 1)).toList = [] := bCells_int 0
      have l8 : loadO H8 (.pointer (some ⟨N0, 0, none⟩)) = some (.slice bs l0.length cp) := by
        obtain ⟨u2, r2, e2⟩ := hS8.r
        exact get_load e2
      have lo8 : loadO H8 (.pointer (some ⟨M + 2, 0, none⟩)) = some (.func (.func 45) #[] #[pt (M + 1), pt N0, pt (M + 2)]) := by
        obtain ⟨u2, r2, e2⟩ := hS8.o
        exact get_load e2
      have k9 : Keep H H9 := by
        have q8 := kx9.1
        refine ⟨by have := k7.1; omega, fun c hc => ?_⟩
        have q1 := k1.1
        have q2 := k2.1
        rw [kx9.2 c (by omega) (by omega), kx8.2 c (by omega) (by omega)]
        exact k7.2 c hc
      refine ⟨H10, by rw [← hH10]; exact k9.trans (Keep.new _ _), .inl ⟨out, H9.size, ⟨1, 3, true⟩, false, .inr rfl, a1, k9.1, by rw [← hH10, Hp.size_new]; omega, K_call a24_eq (by simp [a24]) ?_, ?_⟩⟩
      · unfold a24
        repeat' (first
            | refine W.seq ?_
            | refine W.wo ?_
            | refine WO.nil ?_
            | (apply WO.callv; (case e => (simp only [go_sem, Nat.reduceEqDiff, Nat.reduceAdd, reduceIte, hN, hH1, l1, a4, z0, hM, hH3, hM3, hH4, s1, hM5, hH6, s2, l7, e0, hfl, hb0', hM7, hH8, l8, lo8, hw, hcall, happ]; first | done | with_reducible rfl)); (case c => (simp only [go_sem, Nat.reduceEqDiff, Nat.reduceAdd, reduceIte, hN, hH1, l1, a4, z0, hM, hH3, hM3, hH4, s1, hM5, hH6, s2, l7, e0, hfl, hb0', hM7, hH8, l8, lo8, hw, hcall, happ]; first | done | with_reducible rfl)))
            | (apply WO.panicv; (case e => (simp only [go_sem, Nat.reduceEqDiff, Nat.reduceAdd, reduceIte, hN, hH1, l1, a4, z0, hM, hH3, hM3, hH4, s1, hM5, hH6, s2, l7, e0, hfl, hb0', hM7, hH8, l8, lo8, hw, hcall, happ]; first | done | with_reducible rfl)))
            | (apply WO.ok; (case e => (simp only [go_sem, Nat.reduceEqDiff, Nat.reduceAdd, reduceIte, hN, hH1, l1, a4, z0, hM, hH3, hM3, hH4, s1, hM5, hH6, s2, l7, e0, hfl, hb0', hM7, hH8, l8, lo8, hw, hcall, happ]; first | done | with_reducible rfl)))
            | (apply WO.guardT; (case hj => (simp only [go_sem, Nat.reduceEqDiff, Nat.reduceAdd, reduceIte, hN, hH1, l1, a4, z0, hM, hH3, hM3, hH4, s1, hM5, hH6, s2, l7, e0, hfl, hb0', hM7, hH8, l8, lo8, hw, hcall, happ]; first | done | with_reducible rfl)))
            | (apply WO.guardF; (case hj => (simp only [go_sem, Nat.reduceEqDiff, Nat.reduceAdd, reduceIte, hN, hH1, l1, a4, z0, hM, hH3, hM3, hH4, s1, hM5, hH6, s2, l7, e0, hfl, hb0', hM7, hH8, l8, lo8, hw, hcall, happ]; first | done | with_reducible rfl)))
            | (apply WO.guardU; (case hj => (simp only [go_sem, Nat.reduceEqDiff, Nat.reduceAdd, reduceIte, hN, hH1, l1, a4, z0, hM, hH3, hM3, hH4, s1, hM5, hH6, s2, l7, e0, hfl, hb0', hM7, hH8, l8, lo8, hw, hcall, happ]; first | done | with_reducible rfl)))
            | refine W.skip ?_
            | refine W.ret ?_
            | refine W.exit ?_
            | refine W.block ?_
            | (apply W.branch; (case e => (simp only [go_sem, Nat.reduceEqDiff, Nat.reduceAdd, reduceIte, hN, hH1, l1, a4, z0, hM, hH3, hM3, hH4, s1, hM5, hH6, s2, l7, e0, hfl, hb0', hM7, hH8, l8, lo8, hw, hcall, happ]; first | done | with_reducible rfl)))
            | refine WD.nil ?_
            | (apply WD.callv; (case e => (simp only [go_sem, Nat.reduceEqDiff, Nat.reduceAdd, reduceIte, hN, hH1, l1, a4, z0, hM, hH3, hM3, hH4, s1, hM5, hH6, s2, l7, e0, hfl, hb0', hM7, hH8, l8, lo8, hw, hcall, happ]; first | done | with_reducible rfl)); (case c => (simp only [go_sem, Nat.reduceEqDiff, Nat.reduceAdd, reduceIte, hN, hH1, l1, a4, z0, hM, hH3, hM3, hH4, s1, hM5, hH6, s2, l7, e0, hfl, hb0', hM7, hH8, l8, lo8, hw, hcall, happ]; first | done | with_reducible rfl)); (case hi => first | trivial | (simp only [nx_H]; done)); (case hc => rfl))
            | (apply WD.ok; (case e => (simp only [go_sem, Nat.reduceEqDiff, Nat.reduceAdd, reduceIte, hN, hH1, l1, a4, z0, hM, hH3, hM3, hH4, s1, hM5, hH6, s2, l7, e0, hfl, hb0', hM7, hH8, l8, lo8, hw, hcall, happ]; first | done | with_reducible rfl)); (case hi => first | trivial | (simp only [nx_H]; done)); (case hc => first | rfl | (simp only [eqV, beq_self_eq_true, Bool.and_self, Bool.or_true, Bool.and_true, Option.isSome_some]; done)))
            | (apply WD.guardT; (case hj => (simp only [go_sem, Nat.reduceEqDiff, Nat.reduceAdd, reduceIte, hN, hH1, l1, a4, z0, hM, hH3, hM3, hH4, s1, hM5, hH6, s2, l7, e0, hfl, hb0', hM7, hH8, l8, lo8, hw, hcall, happ]; first | done | with_reducible rfl)); (case hi => first | trivial | (simp only [nx_H]; done)))
            | (apply WD.guardF; (case hj => (simp only [go_sem, Nat.reduceEqDiff, Nat.reduceAdd, reduceIte, hN, hH1, l1, a4, z0, hM, hH3, hM3, hH4, s1, hM5, hH6, s2, l7, e0, hfl, hb0', hM7, hH8, l8, lo8, hw, hcall, happ]; first | done | with_reducible rfl)); (case hi => first | trivial | (simp only [nx_H]; done)))
            | (apply WD.guardU; (case hj => (simp only [go_sem, Nat.reduceEqDiff, Nat.reduceAdd, reduceIte, hN, hH1, l1, a4, z0, hM, hH3, hM3, hH4, s1, hM5, hH6, s2, l7, e0, hfl, hb0', hM7, hH8, l8, lo8, hw, hcall, happ]; first | done | with_reducible rfl)); (case hi => first | trivial | (simp only [nx_H]; done)))
            | with_reducible exact tf
            | with_reducible exact ft
            | intro _)
        exact leave0 (by (simp only [go_sem, Nat.reduceEqDiff, Nat.reduceAdd, reduceIte]; first | done | with_reducible rfl)) (res2 (by (simp only [go_sem, Nat.reduceEqDiff, Nat.reduceAdd, reduceIte]; first | done | rfl)) (by (simp only [go_sem, Nat.reduceEqDiff, Nat.reduceAdd, reduceIte]; first | done | with_reducible rfl)) (by intro c h; cases h) (by intro c h; cases h)) (by (simp only [go_sem, Nat.reduceEqDiff, Nat.reduceAdd, reduceIte]; first | done | with_reducible rfl))
      · rw [← hH10, Hp.get_new, if_pos rfl]
        unfold sumsV
        rw [if_neg hz]
  · refine ⟨H2, k1.trans k2, .inr ⟨a1, K_call a24_eq (by simp [a24]) ?_⟩⟩
    have z0 : ((20 : Int) != 0) = true := rfl
    unfold a24
    repeat' (first
        | refine W.seq ?_
        | refine W.wo ?_
        | refine WO.nil ?_
        | (apply WO.callv; (case e => (simp only [go_sem, Nat.reduceEqDiff, Nat.reduceAdd, reduceIte, hN, hH1, l1, a2, z0]; first | done | with_reducible rfl)); (case c => (simp only [go_sem, Nat.reduceEqDiff, Nat.reduceAdd, reduceIte, hN, hH1, l1, a2, z0]; first | done | with_reducible rfl)))
        | (apply WO.panicv; (case e => (simp only [go_sem, Nat.reduceEqDiff, Nat.reduceAdd, reduceIte, hN, hH1, l1, a2, z0]; first | done | with_reducible rfl)))
        | (apply WO.ok; (case e => (simp only [go_sem, Nat.reduceEqDiff, Nat.reduceAdd, reduceIte, hN, hH1, l1, a2, z0]; first | done | with_reducible rfl)))
        | (apply WO.guardT; (case hj => (simp only [go_sem, Nat.reduceEqDiff, Nat.reduceAdd, reduceIte, hN, hH1, l1, a2, z0]; first | done | with_reducible rfl)))
        | (apply WO.guardF; (case hj => (simp only [go_sem, Nat.reduceEqDiff, Nat.reduceAdd, reduceIte, hN, hH1, l1, a2, z0]; first | done | with_reducible rfl)))
        | (apply WO.guardU; (case hj => (simp only [go_sem, Nat.reduceEqDiff, Nat.reduceAdd, reduceIte, hN, hH1, l1, a2, z0]; first | done | with_reducible rfl)))
        | refine W.skip ?_
        | refine W.ret ?_
        | refine W.exit ?_
        | refine W.block ?_
        | (apply W.branch; (case e => (simp only [go_sem, Nat.reduceEqDiff, Nat.reduceAdd, reduceIte, hN, hH1, l1, a2, z0]; first | done | with_reducible rfl)))
        | refine WD.nil ?_
        | (apply WD.callv; (case e => (simp only [go_sem, Nat.reduceEqDiff, Nat.reduceAdd, reduceIte, hN, hH1, l1, a2, z0]; first | done | with_reducible rfl)); (case c => (simp only [go_sem, Nat.reduceEqDiff, Nat.reduceAdd, reduceIte, hN, hH1, l1, a2, z0]; first | done | with_reducible rfl)); (case hi => first | trivial | (simp only [nx_H]; done)); (case hc => rfl))
        | (apply WD.ok; (case e => (simp only [go_sem, Nat.reduceEqDiff, Nat.reduceAdd, reduceIte, hN, hH1, l1, a2, z0]; first | done | with_reducible rfl)); (case hi => first | trivial | (simp only [nx_H]; done)); (case hc => first | rfl | (simp only [eqV, beq_self_eq_true, Bool.and_self, Bool.or_true, Bool.and_true, Option.isSome_some]; done)))
        | (apply WD.guardT; (case hj => (simp only [go_sem, Nat.reduceEqDiff, Nat.reduceAdd, reduceIte, hN, hH1, l1, a2, z0]; first | done | with_reducible rfl)); (case hi => first | trivial | (simp only [nx_H]; done)))
        | (apply WD.guardF; (case hj => (simp only [go_sem, Nat.reduceEqDiff, Nat.reduceAdd, reduceIte, hN, hH1, l1, a2, z0]; first | done | with_reducible rfl)); (case hi => first | trivial | (simp only [nx_H]; done)))
        | (apply WD.guardU; (case hj => (simp only [go_sem, Nat.reduceEqDiff, Nat.reduceAdd, reduceIte, hN, hH1, l1, a2, z0]; first | done | with_reducible rfl)); (case hi => first | trivial | (simp only [nx_H]; done)))
        | with_reducible exact tf
        | with_reducible exact ft
        | intro _)
    exact leave0 (by (simp only [go_sem, Nat.reduceEqDiff, Nat.reduceAdd, reduceIte]; first | done | with_reducible rfl)) (res2 (by (simp only [go_sem, Nat.reduceEqDiff, Nat.reduceAdd, reduceIte]; first | done | with_reducible rfl)) (by (simp only [go_sem, Nat.reduceEqDiff, Nat.reduceAdd, reduceIte]; first | done | with_reducible rfl)) (by intro c h; cases h) (by intro c h; cases h)) (by (simp only [go_sem, Nat.reduceEqDiff, Nat.reduceAdd, reduceIte]; first | done | with_reducible rfl))
end
def F24 (_ : Nat) (e : List Nd × Unit) : Option (List Int × Int × Unit) := match lens (e.1.map toS) with
  | some _ => some (sumsV (e.1.map toS), (0 : Int), ())
  | none => some ([], (20 : Int), ())
theorem sumsV_len (l : List S55) : (sumsV l).length = 8 := by
  unfold sumsV
  split
  · simp
  · rename_i h
    have : l.length - 1 < l.length := by omega
    rw [vecs_at (List.getElem?_eq_getElem this)]
    exact vecOf_len _ _
def pc24 : PC KK GG := ⟨24, [.sl N55], [(.sl (.int .i64), none), (.int .i64, none)], F24, fun k H Z e vs hG hz ha r hr => by
  obtain ⟨v, rfl, hv⟩ := args1 ha
  rw [repv_sl] at hv
  obtain ⟨base, cp, hvv, hcase⟩ := hv
  simp only [List.cons.injEq, and_true] at hvv
  subst hvv
  have hA : e.1.map toS = [] ∨ ∃ b o sp bc u ro rst, base = some ⟨b, o, sp⟩ ∧ b < H.size ∧ H.get b = some (.cells bc u ro) ∧ bc.drop o = (e.1.map toS).flatMap enc55 ++ rst := by
    rcases hcase with ⟨h, _⟩ | ⟨b, o, sp, bc, u, ro, ps, rest, h1, h2, h3, h4, h5, _⟩
    · exact .inl (by rw [h]; rfl)
    · exact .inr ⟨b, o, sp, bc, u, ro, rest, h1, hz b h2, h3, by rw [h4, reps55 h5]⟩
  obtain ⟨H', hk, hc⟩ := K24 (cp := cp) hG hA
  rw [List.length_map] at hc
  have hk' : Kept H H' := hk
  unfold F24 at hr
  rcases hc with ⟨out, b, u, ro, hu, h1, hb, hlt, h2, h3⟩ | ⟨h1, h2⟩
  · rw [h1] at hr
    cases hr
    have h4 := sumsV_len (e.1.map toS)
    refine ⟨_, H', fun c => Z c ∨ c = b, [_, _], h2, hk', fun _ h => .inl h, ?_, ?_, rfl, ?_, repv_int.2 rfl, trivial⟩
    · rintro c (h | rfl)
      · exact Nat.lt_of_lt_of_le (hz c h) hk'.1
      · exact hlt
    · rintro c (h | rfl) hl
      · exact h
      · exact absurd hl (by omega)
    · rw [repv_sl]
      refine ⟨some ⟨b, 0, none⟩, 8, by rw [h4], .inr ⟨b, 0, none, _, _, _, (sumsV (e.1.map toS)).map fun v => [Value.int .i64 v], [], rfl, .inr rfl, h3, ?_, reps_int _, .inr hu, by decide, Nat.le_of_eq h4⟩⟩
      rw [flat_int]
      simp [ints]
  · rw [h1] at hr
    cases hr
    exact ⟨_, H', Z, [_, _], h2, hk', fun _ h => h, fun b hb => Nat.lt_of_lt_of_le (hz b hb) hk'.1, fun _ h _ => h, rfl, repv_sl.2 ⟨none, 0, rfl, .inl ⟨rfl, fun _ => rfl⟩⟩, repv_int.2 rfl, trivial⟩⟩
end Go.Proofs.YtehbekgmemebjaaDoorEv
