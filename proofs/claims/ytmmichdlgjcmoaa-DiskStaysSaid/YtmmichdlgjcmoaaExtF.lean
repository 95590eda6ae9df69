import Derived.Test.YtmmichdlgjcmoaaPAllx2
import Derived.Test.YtmmichdlgjcmoaaPAllx0
import Derived.Test.YtmmichdlgjcmoaaPureB
import Derived.Deep.DeepMust
import Derived.Deep.RegionHeld3
namespace Go.Proofs.Ytmmichdlgjcmoaa.PAll
open Go.RowKit Go.Proofs.YtmmichdlgjcmoaaW.PrintWords Go.Proofs.YtmmichdlgjcmoaaW.PrintLast Go.Proofs.YtmmichdlgjcmoaaW.PrintMore H
attribute [local go_sem high] eqA59
set_option linter.unusedVariables false
set_option linter.unusedSimpArgs false
namespace H
def cancC (a b : S59) : Bool := a.f0.toList == b.f0.toList && (a.f1 == b.f1 && (a.f2 == !b.f2))
theorem last59 {ys : List S59} (h : 0 < ys.length) : ys.getLast? = some (rd_T59 ys ((ys.length : Int) - 1)) := by
  rw [List.getLast?_eq_getElem?, rd_T59, show ((ys.length : Int) - 1).toNat = ys.length - 1 from by omega, List.getD_eq_getElem?_getD, List.getElem?_eq_getElem (by omega)]
  rfl
theorem pushW_last_cut {α : Type} {f : α → α → Bool} {xs : List α} {x y : α} (h : xs.getLast? = some y) (hc : f y x = true) : pushW f xs x = xs.take (xs.length - 1) := by
  unfold pushW; rw [h]; simp only [hc, if_true]; rw [List.dropLast_eq_take]
theorem pushW_last_add {α : Type} {f : α → α → Bool} {xs : List α} {x y : α} (h : xs.getLast? = some y) (hc : f y x = false) : pushW f xs x = xs ++ [x] := by
  unfold pushW; rw [h]; simp [hc]
theorem simp1_calls (a b : S59) (w : World) : Calls Try.prog 46 #[.agg #[.string a.f0, .int .i64 a.f1, .bool a.f2], .agg #[.string b.f0, .int .i64 b.f1, .bool b.f2]] w fun e w' => e = .returned (.bool (cancC a b)) ∧ Below w.heap.size w w' := by
  go_enter Try.func46, Try.ntmps46
  go_wp2
  all_goals (go_ret; exact ⟨rfl, below_alloc (below_alloc (Below.refl _ _) _) _⟩)
set_option maxHeartbeats 800000 in
theorem pushC_calls (P0 : Nat → Prop) (u : Value) (xs : List S59) (A : Option Addr) (c : Nat) (l : List S59) (w0 w : World) (hB : Below w0.heap.size w0 w)
    (ho : Kd.R k59 59 w w0.heap.size P0 u xs) (hl : ∀ W_, Kept w W_ P0 → Kd.C k59 W_ A l.length l) (hc : l.length ≤ c) (hlen : xs.length + l.length ≤ 1000000000) :
    Calls Try.prog 47 #[u, .func (.func 46) #[] #[], .slice A l.length c] w fun e w' => ∃ v0 : Value, e = .returned v0 ∧ Kd.R k59 59 w' w0.heap.size (fun k => P0 k ∨ w.heap.size ≤ k) v0 (l.foldl (pushW cancC) xs) ∧ Below w0.heap.size w0 w' ∧ Kept w w' P0 := by
  have HO0 := Aside0.mk (show Kd.R k59 59 w w0.heap.size (fun k => P0 k ∨ w.heap.size ≤ k) u xs from Kd.R_mono ho (fun k hk => .inl hk))
  have HK := Aside0.mk (Kept.refl w P0)
  have HB := Aside0.mk hB
  have HL := Aside0.mk hl
  have HC := Aside0.mk hc
  have HN := Aside0.mk hlen
  clear hB ho hl hc hlen
  go_enter Try.func47, Try.ntmps47
  go_wp2
  go_loopw [0, 12] (fun v i wr => ∃ (k : Nat) (ys : List S59), k ≤ l.length ∧ i = .int .i64 k ∧ Aside0 (ys = (l.take k).foldl (pushW cancC) xs) ∧ Aside0 (Kd.R k59 59 wr w0.heap.size (fun k => P0 k ∨ w.heap.size ≤ k) v ys) ∧ Aside0 (Below w0.heap.size w0 wr) ∧ Aside0 (Kept w wr P0)) (fun _ i _ => l.length - (intOf i).toNat)
  case atStart => exact ⟨0, xs, Nat.zero_le _, rfl, ⟨rfl⟩, HO0, HB, HK⟩
  case round =>
    clear HO0 HB HK
    obtain ⟨k, ys, hk, rfl, HY, HO, HB, HK⟩ := hrel
    by_cases hlt : k < l.length
    · obtain ⟨Ao, co, eo⟩ := Kd.R_slice HO.out
      subst eo
      obtain ⟨x, hx⟩ : ∃ x, rd_T59 l (k : Int) = x := ⟨_, rfl⟩
      obtain ⟨ad, e1, hx0, hx1, hx2⟩ := at_T59 (HL.out wr HK.out) (k : Int) (by omega) (by omega)
      cases e1
      rw [hx, Int.toNat_natCast] at hx0 hx1 hx2
      have hst : (l.take (k + 1)).foldl (pushW cancC) xs = pushW cancC ys x := by rw [take59 l k hlt, hx, List.foldl_append, HY.out]; rfl
      have HS := Aside0.mk hst
      have HN2 : Aside0 (ys.length < 1000000000) := ⟨by
        have h1 := foldl_pushW_len cancC (l.take k) xs
        rw [← HY.out, List.length_take] at h1
        have := HN.out; omega⟩
      have hyl : ys.length < 1000000000 := HN2.out
      have hll : l.length ≤ 1000000000 := by have := HN.out; omega
      clear hx hst HY
      have HW1 : Aside0 (Below wr.heap.size wr (wr.alloc (Obj.cells #[Value.string x.f0, Value.int IntKind.i64 x.f1, Value.bool x.f2] 59))) := ⟨below_alloc (Below.refl _ _) _⟩
      by_cases hp : 0 < ys.length
      · obtain ⟨y, hy⟩ : ∃ y, rd_T59 ys ((ys.length : Int) - 1) = y := ⟨_, rfl⟩
        obtain ⟨ad2, e2, hy0, hy1, hy2⟩ := at_T59 (Kd.R_reads' HO.out).2.2 ((ys.length : Int) - 1) (by omega) (by omega)
        cases e2
        rw [hy, show ((ys.length : Int) - 1).toNat = ys.length - 1 from by omega] at hy0 hy1 hy2
        have HLast : Aside0 (ys.getLast? = some y) := ⟨by rw [← hy]; exact last59 hp⟩
        clear hy
        go_wp2
        obtain ⟨W1, hW1⟩ : ∃ W1, W1 = wr.alloc (Obj.cells #[Value.string x.f0, Value.int IntKind.i64 x.f1, Value.bool x.f2] 59) := ⟨_, rfl⟩
        rw [← hW1] at HW1
        have HXB : Aside0 (W1.heap[wr.heap.size]? = some (.cells #[Value.string x.f0, Value.int IntKind.i64 x.f1, Value.bool x.f2] 59 (0, 0))) := ⟨by rw [hW1]; exact Go.heap_alloc_new _ _⟩
        have hz1 : wr.heap.size < W1.heap.size := blk_lt HXB.out
        have hb0 : ad2.block < wr.heap.size := World.block_lt_of_cell? wr (ad2.add ((ys.length - 1) * 3)) hy0 |> fun h => by rwa [add_block] at h
        rw [← hW1]
        clear hW1
        have HS1 : Aside0 (∀ W', Below W1.heap.size W1 W' → W'.cell? (ad2.add ((ys.length - 1) * 3)) = some (Value.string y.f0) ∧ W'.cell? ⟨(ad2.add ((ys.length - 1) * 3)).block, (ad2.add ((ys.length - 1) * 3)).off + 1, none⟩ = some (Value.int IntKind.i64 y.f1) ∧ W'.cell? ⟨(ad2.add ((ys.length - 1) * 3)).block, (ad2.add ((ys.length - 1) * 3)).off + 2, none⟩ = some (Value.bool y.f2) ∧ W'.cell? ⟨wr.heap.size, 0, none⟩ = some (Value.string x.f0) ∧ W'.cell? ⟨wr.heap.size, 1, none⟩ = some (Value.int IntKind.i64 x.f1) ∧ W'.cell? ⟨wr.heap.size, 2, none⟩ = some (Value.bool x.f2) ∧ Below W1.heap.size W1 W') :=
          ⟨fun W' hb => ⟨pw_cell_below hb (pw_cell_below HW1.out hy0), pw_cell_below hb (pw_cell_below HW1.out hy1), pw_cell_below hb (pw_cell_below HW1.out hy2), (blk_cell (blk_below HXB.out hb) 0).trans rfl, (blk_cell (blk_below HXB.out hb) 1).trans rfl, (blk_cell (blk_below HXB.out hb) 2).trans rfl, hb⟩⟩
        clear hy0 hy1 hy2
        have hb00 := Below.refl W1.heap.size W1
        have k1 : IntKind.i64.wrap ((ys.length : Int) - 1) = (ys.length : Int) - 1 := IntWalk.i64_in _ (by omega)
        have k2 : (0 : Int) ≤ (ys.length : Int) - 1 := by omega
        have k3 : ((ys.length : Int) - 1).toNat = ys.length - 1 := by omega
        have k4 : (ys.length : Int) - 1 < (ys.length : Int) := by omega
        have k6 : (1 : Int) ≤ (ys.length : Int) := by omega
        have k5 : decide ((0 : Int) < (ys.length : Int)) = true := by simp; omega
        go_region_held3 (fun W' => W'.cell? (ad2.add ((ys.length - 1) * 3)) = some (Value.string y.f0) ∧ W'.cell? ⟨(ad2.add ((ys.length - 1) * 3)).block, (ad2.add ((ys.length - 1) * 3)).off + 1, none⟩ = some (Value.int IntKind.i64 y.f1) ∧ W'.cell? ⟨(ad2.add ((ys.length - 1) * 3)).block, (ad2.add ((ys.length - 1) * 3)).off + 2, none⟩ = some (Value.bool y.f2) ∧ W'.cell? ⟨wr.heap.size, 0, none⟩ = some (Value.string x.f0) ∧ W'.cell? ⟨wr.heap.size, 1, none⟩ = some (Value.int IntKind.i64 x.f1) ∧ W'.cell? ⟨wr.heap.size, 2, none⟩ = some (Value.bool x.f2) ∧ Below W1.heap.size W1 W') (first | exact HS1.out _ (by assumption) | exact HS1.out _ (below_drew (by assumption)) | exact HS1.out _ (pw_below_drewN (by assumption) _))
          (first | (go_at_call 46; refine (simp1_calls y x _).mono ?_; rintro e w' ⟨rfl, hb⟩; have hbn : Below W1.heap.size W1 w' := below_step (by first | assumption | exact below_drew (by assumption)) hb))
        clear k1 k2 k3 k4 k5 k6
        have hbz := (‹_ ∧ _ ∧ _ ∧ _ ∧ _ ∧ _ ∧ Below W1.heap.size W1 w'›).2.2.2.2.2.2
        have hxc := (‹_ ∧ _ ∧ _ ∧ _ ∧ _ ∧ _ ∧ Below W1.heap.size W1 w'›).2.2.2
        obtain ⟨hx0', hx1', hx2', _⟩ := hxc
        have HB2 : Aside0 (Below w0.heap.size w0 w') := ⟨below_step (below_step HB.out HW1.out) hbz⟩
        have HK2 : Aside0 (Kept w w' P0) := ⟨(HK.out.then_ (Kept.of_below HW1.out P0) (fun _ h => .inl h)).then_ (Kept.of_below hbz P0) (fun _ h => .inl h)⟩
        have HO2 : Aside0 (Kd.R k59 59 w' w0.heap.size (fun k => P0 k ∨ w.heap.size ≤ k) (.slice (some ad2) ys.length co) ys) := ⟨Kd.R_below (Kd.R_below HO.out HW1.out) hbz⟩
        clear HO HB HK
        by_cases hcan : cancC y x = true
        · have HR := Aside0.mk (HS.out.trans (pushW_last_cut HLast.out hcan))
          have HT := Aside0.mk (Kd.R_take (m := ys.length - 1) HO2.out (by omega))
          obtain ⟨i0, hi0, _, hsz, _⟩ := info_parts info59
          have hcut := cut_to (P := Try.prog) 25 59 .i64 Try.underlying25 hi0 (some ad2) ys.length co ((ys.length : Int) - 1) (by omega) (by omega) (Kd.R_reads' HO2.out).2.1
          rw [show ((ys.length : Int) - 1).toNat = ys.length - 1 from by omega] at hcut
          clear hsz hi0
          rw [hcan]
          go_wp2
          go_roundw
          case rel => exact ⟨k + 1, _, by omega, by go_num, ⟨HR.out.symm⟩, HT, HB2, HK2⟩
          case measure => simp [intOf]; omega
        · have hcan2 : cancC y x = false := by simpa using hcan
          have HR := Aside0.mk (HS.out.trans (pushW_last_add HLast.out hcan2))
          clear hcan
          rw [hcan2]
          go_wp2_with (((with_reducible refine gate_builtin (b := .append) (xs := #[.tmp 34, .tmp 36]) rfl ?_); at_builtin; go_must ((refine Kd.R_append k59 (w0 := w0) w0.heap.size rfl (.tmp 34) (.tmp 36) 25 59 (.agg #[(.string ⟨#[]⟩), (.int .i64 0), (.bool false)]) 32 rfl Try.underlying25 info59 rfl (by decide) (by omega) _ ys x [.string x.f0, .int .i64 x.f1, .bool x.f2] (fun k => P0 k ∨ w.heap.size ≤ k) (fun _ => False) rfl rfl ?aP (fun _ hk => hk.elim) ?aF ?aO ?aB ?aS ?aL ?_); (case aP => exact k59_mkM _ _ _ x); (case aB => exact HB2.out); (case aF => exact fun k hk => .inr (Nat.le_trans HK2.out.1 hk)); (case aO => exact HO2.out); (case aS => exact HB2.out.size); (case aL => have := HN2.out; omega); intro v1 w1 hoa hba hga hat; have HBn := Aside0.mk hba; have HKn := Aside0.mk (Kept.of_grown (S := P0) hga HK2.out (fun k e_ => HO2.out.1 k e_)); have HOn := Aside0.mk hoa; clear hba hga hat hoa)))
          go_roundw
          case rel => exact ⟨k + 1, _, by omega, by go_num, ⟨HR.out.symm⟩, HOn, HBn, HKn⟩
          case measure => simp [intOf]; omega
      · have hnil : ys = [] := List.eq_nil_of_length_eq_zero (by omega)
        subst hnil
        have HR : Aside0 ((l.take (k + 1)).foldl (pushW cancC) xs = [] ++ [x]) := ⟨HS.out.trans rfl⟩
        simp only [List.length_nil] at HO
        clear hp
        have HB3 : Aside0 (Below w0.heap.size w0 (wr.alloc (Obj.cells #[Value.string x.f0, Value.int IntKind.i64 x.f1, Value.bool x.f2] 59))) := ⟨below_step HB.out HW1.out⟩
        have HK3 : Aside0 (Kept w (wr.alloc (Obj.cells #[Value.string x.f0, Value.int IntKind.i64 x.f1, Value.bool x.f2] 59)) P0) := ⟨HK.out.then_ (Kept.of_below HW1.out P0) (fun _ h => .inl h)⟩
        have HO3 : Aside0 (Kd.R k59 59 (wr.alloc (Obj.cells #[Value.string x.f0, Value.int IntKind.i64 x.f1, Value.bool x.f2] 59)) w0.heap.size (fun k => P0 k ∨ w.heap.size ≤ k) (.slice Ao 0 co) []) := ⟨Kd.R_below HO.out HW1.out⟩
        go_wp2
        go_quiet (fail)
        go_wp2_with (((with_reducible refine gate_builtin (b := .append) (xs := #[.tmp 34, .tmp 36]) rfl ?_); at_builtin; go_must ((refine Kd.R_append k59 (w0 := w0) w0.heap.size rfl (.tmp 34) (.tmp 36) 25 59 (.agg #[(.string ⟨#[]⟩), (.int .i64 0), (.bool false)]) 32 rfl Try.underlying25 info59 rfl (by decide) (by omega) _ ([] : List S59) x [.string x.f0, .int .i64 x.f1, .bool x.f2] (fun k => P0 k ∨ w.heap.size ≤ k) (fun _ => False) rfl (by first | rfl | (go_simp; done) | (go_simp; rfl)) ?aP (fun _ hk => hk.elim) ?aF ?aO ?aB ?aS ?aL ?_); (case aP => exact k59_mkM _ _ _ x); (case aB => first | exact HB3.out | exact pw_below_drewN HB3.out _); (case aF => exact fun k hk => .inr (Nat.le_trans (by first | exact HK3.out.1 | exact (HK3.out.drewN _).1) hk)); (case aO => first | exact HO3.out | exact Kd.R_drewN HO3.out _); (case aS => first | exact HB3.out.size | exact (pw_below_drewN HB3.out _).size); (case aL => have := HN2.out; omega); intro v1 w1 hoa hba hga hat; have HBn := Aside0.mk hba; have HKn := Aside0.mk (Kept.of_grown (S := P0) hga (by first | exact HK3.out | exact HK3.out.drewN _) (fun k e_ => HO3.out.1 k e_)); have HOn := Aside0.mk hoa; clear hba hga hat hoa)))
        go_roundw
        case rel => exact ⟨k + 1, _, by omega, by go_num, ⟨HR.out.symm⟩, HOn, HBn, HKn⟩
        case measure => simp [intOf]; omega
    · have hke : k = l.length := by omega
      have HF : Aside0 (ys = l.foldl (pushW cancC) xs) := ⟨by rw [HY.out, hke, List.take_length]⟩
      clear hke
      go_wp2
      go_ret
      exact ⟨_, rfl, by rw [← HF.out]; exact HO.out, HB.out, HK.out⟩
def redC (c : S59) : S59 := ⟨strOfNums (redL [c.f0]), c.f1, c.f2⟩
def simpL (d : List S59) : List S59 := d.foldl (fun out c => pushW cancC out (redC c)) []
theorem reduced_calls (s : ByteArray) (b : Nat) (c : Nat) (w : World) (hs : s.size ≤ 100000000) (hr : Kd.C Kd.string w (some ⟨b, 0, none⟩) 1 [s]) (hc : 1 ≤ c) :
    Calls Try.prog 40 #[.slice (some ⟨b, 0, none⟩) 1 c] w fun e w' => e = .returned (.string (strOfNums (redL [s]))) ∧ Below w.heap.size w w' :=
  disk_reduced.calls (some ⟨b, 0, none⟩) c [s] _ w hr hc (by rw [disk_reduced.f, if_pos (by rw [sizes_cons]; simp only [sizes, List.foldl_nil]; omega)])
theorem lit1_C (W : World) (b : Nat) (fr : Nat × Nat) (A : Option Addr) (n c : Nat) (d : List S59) (hn : d.length = n) (hc : n ≤ c) (h : W.heap[b]? = some (.cells #[.slice A n c] 25 fr)) (hd : Kd.C k59 W A n d) : Kd.C (Kd.slice 59 k59) W (some ⟨b, 0, none⟩) 1 [d] := by
  subst hn
  refine ⟨rfl, by omega, fun _ => ⟨_, rfl, fun j p hj => ?_⟩⟩
  obtain rfl : j = 0 := by have := (List.getElem?_eq_some_iff.1 hj).1; simp at this; exact this
  simp only [List.getElem?_cons_zero, Option.some.injEq] at hj
  subst hj
  refine ⟨[.slice A d.length c], rfl, ⟨A, c, rfl, hc, hd⟩, fun i u hi => ?_⟩
  obtain rfl : i = 0 := by have := (List.getElem?_eq_some_iff.1 hi).1; simp at this; exact this
  simp only [List.getElem?_cons_zero, Option.some.injEq] at hi
  subst hi
  rw [add_plain]
  unfold World.cell?
  rw [h]
  rfl
theorem examine0_calls (g : Int) (A0 : Option Addr) (n0 c0 : Nat) (rels : List ByteArray) (hn0 : rels.length = n0) (b c : Nat) (d : List S59) (w : World) (hr : Kd.C Kd.string w A0 n0 rels) (hc0 : n0 ≤ c0) (hd : Kd.C (Kd.slice 59 k59) w (some ⟨b, 0, none⟩) 1 [d]) (hc : 1 ≤ c) :
    Calls Try.prog 38 #[.agg #[.int .i64 g, .slice A0 n0 c0], .slice none 0 0, .slice (some ⟨b, 0, none⟩) 1 c] w fun e w' => e = .returned (.int .i64 (examineS g rels [] [d])) ∧ Below w.heap.size w w' := by
  subst hn0
  obtain ⟨k, hk⟩ := (disk_examine_ev g rels [] [d] (by simp) (by simp)).rounds
  exact disk_examine.calls k g A0 c0 rels none 0 [] (some ⟨b, 0, none⟩) c [d] _ w hr hc0 (Kd.C_nil _ _) (Nat.le_refl _) hd hc hk
theorem simpL_len (d : List S59) : (simpL d).length ≤ d.length := by
  suffices h : ∀ (d out : List S59), (d.foldl (fun out c => pushW cancC out (redC c)) out).length ≤ out.length + d.length by
    have := h d []; simpa [simpL] using this
  intro d
  induction d with
  | nil => intro out; simp
  | cons c d ih => intro out; have := ih (pushW cancC out (redC c)); have := pushW_len cancC out (redC c); simp only [List.foldl_cons, List.length_cons]; omega
theorem lit59_C (W : World) (b : Nat) (c : S59) (fr : Nat × Nat) (h : W.heap[b]? = some (.cells #[.string c.f0, .int .i64 c.f1, .bool c.f2] 59 fr)) : Kd.C k59 W (some ⟨b, 0, none⟩) 1 [c] := by
  refine ⟨rfl, by omega, fun _ => ⟨_, rfl, fun j p hj => ?_⟩⟩
  obtain rfl : j = 0 := by have := (List.getElem?_eq_some_iff.1 hj).1; simp at this; exact this
  simp only [List.getElem?_cons_zero, Option.some.injEq] at hj
  subst hj
  refine ⟨[.string c.f0, .int .i64 c.f1, .bool c.f2], rfl, k59_mk _ c, fun i u hi => ?_⟩
  rw [add_plain]
  unfold World.cell?
  rw [h]
  simpa using hi
theorem lit59_kept (W : World) (b : Nat) (c : S59) (fr : Nat × Nat) (h : W.heap[b]? = some (.cells #[.string c.f0, .int .i64 c.f1, .bool c.f2] 59 fr)) {S : Nat → Prop} (hS : ¬ S b) : ∀ W_, Kept W W_ S → Kd.C k59 W_ (some ⟨b, 0, none⟩) 1 [c] :=
  fun W_ hk => lit59_C W_ b c fr (blk_kept h hk hS)
end H
def disk_Simplify.f (g : Int) (rels : List ByteArray) (d : List S59) : Option (List S59 × Int) := if examineS g rels [] [d] = 0 then some (simpL d, 0) else some ([], examineS g rels [] [d])
set_option maxHeartbeats 1600000 in
theorem disk_Simplify.calls (a0_0 : Int) (A0_1 : Option Addr) (c0_1 : Nat) (l0_1 : List ByteArray) (A1 : Option Addr) (c1 : Nat) (l1 : List S59) (r1 : List S59) (r2 : Int) (w : World) (hr0_1 : Kd.C Kd.string w A0_1 l0_1.length l0_1) (hc0_1 : l0_1.length ≤ c0_1) (hr1 : Kd.C k59 w A1 l1.length l1) (hc1 : l1.length ≤ c1) (h : disk_Simplify.f a0_0 l0_1 l1 = some (r1, r2)) :
    Calls Try.prog 23 #[.agg #[.int .i64 a0_0, .slice A0_1 l0_1.length c0_1], .slice A1 l1.length c1] w fun e w' => ∃ v0_ : Value, e = .returned (.tuple #[v0_, .int .i64 r2]) ∧ Kd.R k59 59 w' w.heap.size (fun _ => True) v0_ r1 ∧ Below w.heap.size w w' := by
  have HR := Aside0.mk hr0_1
  have HC := Aside0.mk hc0_1
  have HD := Aside0.mk hr1
  have HDC := Aside0.mk hc1
  have hll : l1.length ≤ 9223372036854775807 := Kd.C_max hr1
  unfold disk_Simplify.f at h
  clear hr0_1 hc0_1 hr1 hc1
  have HL : Aside0 (Kd.C (Kd.slice 59 k59) ((w.alloc (Obj.cells #[Value.int IntKind.i64 a0_0, Value.slice A0_1 l0_1.length c0_1] 24)).alloc (Obj.cells #[Value.slice A1 l1.length c1] 25)) (some ⟨w.heap.size + 1, 0, none⟩) 1 [l1]) :=
    ⟨lit1_C _ _ (0, 0) A1 _ c1 l1 rfl HDC.out (by rw [show w.heap.size + 1 = (w.alloc (Obj.cells #[Value.int IntKind.i64 a0_0, Value.slice A0_1 l0_1.length c0_1] 24)).heap.size from by rw [World.size_alloc]]; exact Go.heap_alloc_new _ _) (Kd.C_alloc (Kd.C_alloc HD.out _) _)⟩
  by_cases he : examineS a0_0 l0_1 [] [l1] = 0
  · rw [if_pos he] at h
    obtain ⟨rfl, rfl⟩ := Prod.mk.inj (Option.some.inj h)
    clear h
    obtain ⟨hp, _, hd⟩ := examine_zero he
    have HOK := Aside0.mk (diskOk_of hp (hd l1 (by simp)))
    clear hp hd
    go_enter Try.func23, Try.ntmps23
    go_wp2_with (go_at_call 38; go_must ((refine (examine0_calls a0_0 A0_1 _ c0_1 l0_1 rfl _ _ l1 _ ?aR HC.out HL.out (Nat.le_refl _)).mono ?_); (case aR => exact Kd.C_alloc (Kd.C_alloc HR.out _) _); rintro e w1 ⟨rfl, hb1⟩; rw [he]; have HB1 := Aside0.mk (Below.trans (below_alloc (below_alloc (Below.refl w.heap.size w) _) _) (hb1.mono (by simp; omega))); clear hb1))
    clear HL
    go_loopw [8, 20] (fun v i wr => ∃ (k : Nat) (ys : List S59), k ≤ l1.length ∧ i = .int .i64 k ∧ Aside0 (ys = simpL (l1.take k)) ∧ Aside0 (Kd.R k59 59 wr w.heap.size (fun _ => True) v ys) ∧ Aside0 (Below w.heap.size w wr)) (fun _ i _ => l1.length - (intOf i).toNat)
    case atStart => exact ⟨0, [], Nat.zero_le _, rfl, ⟨rfl⟩, ⟨Kd.R_nil _ _ _ _ _⟩, HB1⟩
    case round =>
      clear HB1
      obtain ⟨k, ys, hk, rfl, HY, HO, HB⟩ := hrel
      by_cases hlt : k < l1.length
      · obtain ⟨c, hc⟩ : ∃ c, rd_T59 l1 (k : Int) = c := ⟨_, rfl⟩
        obtain ⟨ad, e1, hx0, hx1, hx2⟩ := at_T59 (Kd.C_below HD.out HB.out) (k : Int) (by omega) (by omega)
        cases e1
        rw [hc, Int.toNat_natCast] at hx0 hx1 hx2
        have HF := Aside0.mk (HOK.out.cell c (by rw [← hc]; exact rd59_mem l1 k hlt))
        have HTk : Aside0 (simpL (l1.take (k + 1)) = pushW cancC ys (redC c)) := ⟨by rw [take59 l1 k hlt, hc]; simp only [simpL, List.foldl_append, List.foldl_cons, List.foldl_nil]; rw [HY.out]; rfl⟩
        have HLn : Aside0 (ys.length + 1 ≤ 1000000000) := ⟨by
          have h1 : (simpL (l1.take k)).length ≤ (l1.take k).length := simpL_len _
          rw [← HY.out, List.length_take] at h1
          have := HOK.out.num; omega⟩
        clear hc HY
        have HTk' : Aside0 ([redC c].foldl (pushW cancC) ys = simpL (l1.take (k + 1))) := ⟨HTk.out.symm⟩
        obtain ⟨Ao, co, eo⟩ := Kd.R_slice HO.out
        subst eo
        have HTt := Aside0.mk (Kd.R_tight rfl HO.out)
        have HOl : Aside0 (∀ q, some q = (Value.slice Ao ys.length co).ownBlock → q < wr.heap.size) := ⟨fun q hq => Kd.R_lt HO.out q hq.symm⟩
        have HOg : Aside0 (∀ q, some q = (Value.slice Ao ys.length co).ownBlock → w.heap.size ≤ q) := ⟨fun q hq => Kd.R_base HO.out q hq.symm⟩
        clear HO
        go_wp2_with (first | (go_at_call 40; go_must ((refine (reduced_calls c.f0 _ 1 _ (by have := HF.out.2.2.1; omega) ?aL (Nat.le_refl _)).mono ?_); (case aL => exact lit_C _ _ 9 (0, 0) [c.f0] (by simp) _ rfl (by rw [show wr.heap.size + 1 = (wr.alloc (Obj.cells #[Value.string c.f0, Value.int IntKind.i64 c.f1, Value.bool c.f2] 59)).heap.size from by rw [World.size_alloc]]; exact Go.heap_alloc_new _ _)); rintro e w2 ⟨rfl, hb2⟩; have hXB : w2.heap[wr.heap.size]? = some (.cells #[Value.string c.f0, Value.int IntKind.i64 c.f1, Value.bool c.f2] 59 (0, 0)) := blk_below (blk_alloc (Go.heap_alloc_new _ _) _) hb2; have hB2 : Below wr.heap.size wr w2 := Below.trans (below_alloc (below_alloc (Below.refl wr.heap.size wr) _) _) (hb2.mono (by simp; omega)); have HXB := Aside0.mk hXB; have HB2 := Aside0.mk hB2; have y0 := (blk_cell hXB 0).trans rfl; have y1 := (blk_cell hXB 1).trans rfl; have y2 := (blk_cell hXB 2).trans rfl; have y3 := blk_frozen hXB 0; clear hXB hB2 hb2)) | (go_at_call 47; go_must ((refine (pushC_calls (fun q => some q = (.slice Ao ys.length co : Value).ownBlock) _ ys _ 1 [redC c] w _ ?bB ?bO ?bL (Nat.le_refl _) HLn.out).mono ?_); (case bB => exact below_alloc ((below_step HB.out HB2.out).setCell HB.out.size _) _); (case bO => exact Kd.R_alloc (Kd.R_far (Kd.R_below HTt.out HB2.out) (fun q hq => Nat.ne_of_lt (HOl.out q hq)) _) _); (case bL => exact lit59_kept _ _ (redC c) (0, 0) (by rw [show w2.heap.size = (w2.setCell { block := wr.heap.size, off := 0 } (Value.string (strOfNums (redL [c.f0])))).heap.size from by simp]; exact Go.heap_alloc_new _ _) (fun h => by have := HOl.out _ h; have := blk_lt HXB.out; omega)); rintro e w3 ⟨v3, rfl, ho3, hb3, hk3⟩; have HO3 := Aside0.mk (Kd.R_mono (ok' := fun _ => True) ho3 (fun _ _ => trivial)); have HB3 := Aside0.mk hb3; clear ho3 hb3 hk3)))
        go_roundw
        case rel => exact ⟨k + 1, _, by omega, by go_num, HTk', HO3, HB3⟩
        case measure => simp [intOf]; omega
      · have hke : k = l1.length := by omega
        have HF : Aside0 (ys = simpL l1) := ⟨by rw [HY.out, hke, List.take_length]⟩
        clear hke
        go_wp2
        go_ret2
        exact ⟨_, rfl, by rw [← HF.out]; exact HO.out, HB.out⟩
  · rw [if_neg he] at h
    obtain ⟨rfl, rfl⟩ := Prod.mk.inj (Option.some.inj h)
    clear h
    have hb0 : (examineS a0_0 l0_1 [] [l1] != 0) = true := by simp [he]
    go_enter Try.func23, Try.ntmps23
    go_wp2_with (go_at_call 38; go_must ((refine (examine0_calls a0_0 A0_1 _ c0_1 l0_1 rfl _ _ l1 _ ?aR HC.out HL.out (Nat.le_refl _)).mono ?_); (case aR => exact Kd.C_alloc (Kd.C_alloc HR.out _) _); rintro e w1 ⟨rfl, hb1⟩; have HB1 := Aside0.mk (Below.trans (below_alloc (below_alloc (Below.refl w.heap.size w) _) _) (hb1.mono (by simp; omega))); clear hb1))
    go_ret2
    exact ⟨_, rfl, Kd.R_nil _ _ _ _ _, HB1.out⟩
end Go.Proofs.Ytmmichdlgjcmoaa.PAll
