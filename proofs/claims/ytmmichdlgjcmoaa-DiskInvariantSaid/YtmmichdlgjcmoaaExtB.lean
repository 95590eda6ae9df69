import Derived.Test.YtmmichdlgjcmoaaPAllx0
import Derived.Test.YtmmichdlgjcmoaaPAllx7
import Derived.Test.YtmmichdlgjcmoaaPureA
import Derived.Deep.DeepMust
import Derived.Deep.RegionHeld3
namespace Go.Proofs.Ytmmichdlgjcmoaa.PAll
open Go.RowKit Go.Proofs.YtmmichdlgjcmoaaW.PrintWords Go.Proofs.YtmmichdlgjcmoaaW.PrintLast Go.Proofs.YtmmichdlgjcmoaaW.PrintMore H
set_option linter.unusedVariables false
set_option linter.unusedSimpArgs false
namespace H
theorem inverse_calls (s : ByteArray) (hs : s.size ≤ 1000000000) (w : World) : Calls Try.prog 57 #[.string s] w fun e w' => e = .returned (.string (invS s)) ∧ Below w.heap.size w w' := by
  obtain ⟨k, hk⟩ := (disk_inverse_ev s hs).rounds
  exact disk_inverse.calls k s _ w hk
theorem side_calls (g : Int) (A : Option Addr) (c n : Nat) (rels : List ByteArray) (hn : n = rels.length) (rel : Int) (inv : Bool) (w : World) (h0 : 0 ≤ rel) (h1 : rel < rels.length) (hs : (rdOf ByteArray.empty rels rel).size ≤ 1000000000)
    (hr : Kd.C Kd.string w A n rels) (hc : n ≤ c) :
    Calls Try.prog 56 #[.agg #[.int .i64 g, .slice A n c], .int .i64 rel, .bool inv] w fun e w' => e = .returned (.string (sideS rels rel inv)) ∧ Below w.heap.size w w' := by
  obtain ⟨k, hk⟩ := (disk_side_ev g rels rel inv h0 h1 hs).rounds
  subst hn
  exact disk_side.calls k g A c rels rel inv _ w hr hc hk
def cellW (rels : List ByteArray) (c : S59) : List ByteArray := [c.f0, sideS rels c.f1 c.f2, invS c.f0]
def boundL (rels : List ByteArray) (d : List S59) : List Int := redL (d.flatMap (cellW rels))
def cellFit (rels : List ByteArray) (c : S59) : Prop := 0 ≤ c.f1 ∧ c.f1 < rels.length ∧ (rdOf ByteArray.empty rels c.f1).size ≤ 1000000000 ∧ c.f0.size ≤ 1000000000
def boundOk (rels : List ByteArray) (d : List S59) : Prop := (∀ c ∈ d, cellFit rels c) ∧ sizes (d.flatMap (cellW rels)) ≤ 100000000
def boundB (rels : List ByteArray) (d : List S59) : Bool := d.all (fun c => decide (0 ≤ c.f1) && decide (c.f1 < rels.length) && decide ((rdOf ByteArray.empty rels c.f1).size ≤ 1000000000) && decide (c.f0.size ≤ 1000000000)) && decide (sizes (d.flatMap (cellW rels)) ≤ 100000000)
theorem boundB_ok {rels : List ByteArray} {d : List S59} : boundB rels d = true ↔ boundOk rels d := by
  simp [boundB, boundOk, cellFit, and_assoc]
theorem rd59_mem (l : List S59) (k : Nat) (h : k < l.length) : rd_T59 l (k : Int) ∈ l := by
  unfold rd_T59; rw [Int.toNat_natCast, List.getD_eq_getElem?_getD, List.getElem?_eq_getElem h]; exact List.getElem_mem _
theorem take59 (l : List S59) (k : Nat) (h : k < l.length) : l.take (k + 1) = l.take k ++ [rd_T59 l (k : Int)] := by
  rw [List.take_succ_eq_append_getElem h]; simp [rd_T59, h]
theorem lit_C (W : World) (b : Nat) (e : TypeId) (fr : Nat × Nat) (ws : List ByteArray) (hl : ws.length ≤ 9223372036854775807) (cs : Array Value) (hcs : cs = (ws.map Value.string).toArray) (h : W.heap[b]? = some (.cells cs e fr)) : Kd.C Kd.string W (some ⟨b, 0, none⟩) ws.length ws := by
  subst hcs
  refine Kd.C_of_reads (enc := Value.string) (d := ByteArray.empty) (h1 := fun _ => rfl) ⟨rfl, hl, fun _ => ⟨_, rfl, fun j hj => ?_⟩⟩
  rw [add_plain]
  unfold World.cell?
  rw [h]
  simp [hj]
theorem boundL_snoc (rels : List ByteArray) (d : List S59) (c : S59) : boundL rels (d ++ [c]) = redL (d.flatMap (cellW rels) ++ cellW rels c) := by
  simp [boundL, List.flatMap_append]
end H
def disk_boundary.f (g : Int) (rels : List ByteArray) (d : List S59) : Option ByteArray := if boundB rels d = true then some (strOfNums (boundL rels d)) else none
set_option maxHeartbeats 1600000 in
theorem disk_boundary.calls (a0_0 : Int) (A0_1 : Option Addr) (c0_1 : Nat) (l0_1 : List ByteArray) (A1 : Option Addr) (c1 : Nat) (l1 : List S59) (r : ByteArray) (w : World) (hr0_1 : Kd.C Kd.string w A0_1 l0_1.length l0_1) (hc0_1 : l0_1.length ≤ c0_1) (hr1 : Kd.C k59 w A1 l1.length l1) (hc1 : l1.length ≤ c1) (h : disk_boundary.f a0_0 l0_1 l1 = some r) :
    Calls Try.prog 39 #[.agg #[.int .i64 a0_0, .slice A0_1 l0_1.length c0_1], .slice A1 l1.length c1] w fun e w' => e = .returned (.string r) ∧ Below w.heap.size w w' := by
  unfold disk_boundary.f at h
  split at h
  case isFalse => cases h
  rename_i hokB
  have hok := boundB_ok.1 hokB
  clear hokB
  obtain rfl := Option.some.inj h
  clear h
  have HR := Aside0.mk hr0_1
  have HC := Aside0.mk hc0_1
  have HD := Aside0.mk hr1
  have HDC := Aside0.mk hc1
  have HOK := Aside0.mk hok
  have hll : l1.length ≤ 9223372036854775807 := Kd.C_max hr1
  clear hr0_1 hc0_1 hok hr1 hc1
  go_enter Try.func39, Try.ntmps39
  go_wp2
  obtain ⟨W0, hW0⟩ : ∃ W0, W0 = w.alloc (Obj.cells #[Value.int IntKind.i64 a0_0, Value.slice A0_1 l0_1.length c0_1] 24) := ⟨_, rfl⟩
  have HB0 : Aside0 (Below w.heap.size w W0) := ⟨by rw [hW0]; exact below_alloc (Below.refl _ _) _⟩
  have HP0 : Aside0 (W0.heap[w.heap.size]? = some (.cells #[Value.int IntKind.i64 a0_0, Value.slice A0_1 l0_1.length c0_1] 24 (0, 0))) := ⟨by rw [hW0]; exact Go.heap_alloc_new _ _⟩
  have HZW : Aside0 (w.heap.size < W0.heap.size) := ⟨blk_lt HP0.out⟩
  rw [← hW0]
  clear hW0
  go_loopw [5, 12] (fun v i wr => ∃ (k : Nat) (ys : List Int), k ≤ l1.length ∧ i = .int .i64 k ∧ Aside0 (ys = boundL l0_1 (l1.take k)) ∧ Aside0 (Kd.R (Kd.int .u8) 5 wr W0.heap.size (fun _ => True) v ys) ∧ Aside0 (Below W0.heap.size W0 wr)) (fun _ i _ => l1.length - (intOf i).toNat)
  case atStart => exact ⟨0, [], Nat.zero_le _, rfl, ⟨rfl⟩, ⟨Kd.R_nil _ _ _ _ _⟩, ⟨Below.refl _ _⟩⟩
  case round =>
    obtain ⟨k, ys, hk, rfl, HY, HO, HB⟩ := hrel
    by_cases hlt : k < l1.length
    · obtain ⟨c, hc⟩ : ∃ c, rd_T59 l1 (k : Int) = c := ⟨_, rfl⟩
      have HBw : Aside0 (Below w.heap.size w wr) := ⟨HB0.out.trans (HB.out.mono (Nat.le_of_lt HZW.out))⟩
      obtain ⟨ad, e1, hx0, hx1, hx2⟩ := at_T59 (Kd.C_below HD.out HBw.out) (k : Int) (by omega) (by omega)
      cases e1
      rw [hc] at hx0 hx1 hx2
      rw [Int.toNat_natCast] at hx0 hx1 hx2
      have HPr : Aside0 (wr.heap[w.heap.size]? = some (.cells #[Value.int IntKind.i64 a0_0, Value.slice A0_1 l0_1.length c0_1] 24 (0, 0))) := ⟨(HB.out.block _ HZW.out).trans HP0.out⟩
      go_wp2
      obtain ⟨W1, hW1⟩ : ∃ W1, W1 = wr.alloc (Obj.cells #[Value.string c.f0, Value.int IntKind.i64 c.f1, Value.bool c.f2] 59) := ⟨_, rfl⟩
      have HB1 : Aside0 (Below W0.heap.size W0 W1) := ⟨by rw [hW1]; exact HB.out.alloc HB.out.size _⟩
      have HP1 : Aside0 (W1.heap[w.heap.size]? = some (.cells #[Value.int IntKind.i64 a0_0, Value.slice A0_1 l0_1.length c0_1] 24 (0, 0))) := ⟨by rw [hW1]; exact blk_alloc HPr.out _⟩
      have HC1 : Aside0 (W1.heap[wr.heap.size]? = some (.cells #[Value.string c.f0, Value.int IntKind.i64 c.f1, Value.bool c.f2] 59 (0, 0))) := ⟨by rw [hW1]; exact Go.heap_alloc_new _ _⟩
      have HO1 := Aside0.mk (show Kd.R (Kd.int .u8) 5 W1 W0.heap.size (fun _ => True) u5 ys by rw [hW1]; exact Kd.R_alloc HO.out _)
      rw [← hW1]
      clear hW1
      have HS : Aside0 (∀ W', Below W1.heap.size W1 W' → W'.cell? ⟨w.heap.size, 0, none⟩ = some (Value.int IntKind.i64 a0_0) ∧ W'.cell? ⟨w.heap.size, 1, none⟩ = some (Value.slice A0_1 l0_1.length c0_1) ∧ W'.cell? ⟨wr.heap.size, 0, none⟩ = some (Value.string c.f0) ∧ W'.cell? ⟨wr.heap.size, 1, none⟩ = some (Value.int IntKind.i64 c.f1) ∧ W'.cell? ⟨wr.heap.size, 2, none⟩ = some (Value.bool c.f2) ∧ Below W1.heap.size W1 W') :=
        ⟨fun W' hb => ⟨(blk_cell (blk_below HP1.out hb) 0).trans rfl, (blk_cell (blk_below HP1.out hb) 1).trans rfl, (blk_cell (blk_below HC1.out hb) 0).trans rfl, (blk_cell (blk_below HC1.out hb) 1).trans rfl, (blk_cell (blk_below HC1.out hb) 2).trans rfl, hb⟩⟩
      have HF : Aside0 (cellFit l0_1 c) := ⟨HOK.out.1 c (by rw [← hc]; exact rd59_mem l1 k hlt)⟩
      have HSz : Aside0 (sizes ((l1.take k).flatMap (cellW l0_1) ++ cellW l0_1 c) ≤ 100000000) := ⟨by
        refine Nat.le_trans ?_ HOK.out.2
        have e : l1.flatMap (cellW l0_1) = ((l1.take k).flatMap (cellW l0_1) ++ cellW l0_1 c) ++ (l1.drop (k + 1)).flatMap (cellW l0_1) := by
          have := take59 l1 k hlt
          rw [hc] at this
          conv => lhs; rw [← List.take_append_drop (k + 1) l1, this]
          simp [List.flatMap_append]
        have := sizes_append ((l1.take k).flatMap (cellW l0_1) ++ cellW l0_1 c) ((l1.drop (k + 1)).flatMap (cellW l0_1))
        rw [e]; omega⟩
      have HTk : Aside0 (l1.take (k + 1) = l1.take k ++ [c]) := ⟨by rw [← hc]; exact take59 l1 k hlt⟩
      clear hc
      have HR1 : Aside0 (∀ W', Below W1.heap.size W1 W' → Kd.C Kd.string W' A0_1 l0_1.length l0_1) := ⟨fun W' hb => Kd.C_below (Kd.C_below HR.out (HB0.out.trans (HB1.out.mono (Nat.le_of_lt HZW.out)))) hb⟩
      have hb00 := Below.refl W1.heap.size W1
      go_region_held3 (fun W' => W'.cell? ⟨w.heap.size, 0, none⟩ = some (Value.int IntKind.i64 a0_0) ∧ W'.cell? ⟨w.heap.size, 1, none⟩ = some (Value.slice A0_1 l0_1.length c0_1) ∧ W'.cell? ⟨wr.heap.size, 0, none⟩ = some (Value.string c.f0) ∧ W'.cell? ⟨wr.heap.size, 1, none⟩ = some (Value.int IntKind.i64 c.f1) ∧ W'.cell? ⟨wr.heap.size, 2, none⟩ = some (Value.bool c.f2) ∧ Below W1.heap.size W1 W') (first | exact HS.out _ (by assumption) | exact HS.out _ (below_drew (by assumption)) | exact HS.out _ (pw_below_drewN (by assumption) _) | exact HS.out _ (below_alloc (by assumption) _) | exact HS.out _ (below_alloc (below_drew (by assumption)) _))
        (first | (go_at_call 57; refine (inverse_calls c.f0 HF.out.2.2.2 _).mono ?_; rintro e w' ⟨rfl, hb⟩; have hbn : Below W1.heap.size W1 w' := below_step (by first | assumption | exact below_drew (by assumption)) hb) | (go_at_call 56; refine (side_calls a0_0 A0_1 c0_1 l0_1.length l0_1 rfl c.f1 c.f2 _ HF.out.1 HF.out.2.1 HF.out.2.2.1 ?aR HC.out).mono ?_; (case aR => exact HR1.out _ (by first | assumption | exact below_drew (by assumption))); rintro e w' ⟨rfl, hb⟩; have hbn : Below W1.heap.size W1 w' := below_step (by first | assumption | exact below_drew (by assumption)) hb))
      go_wp2
      have hbz := (‹_ ∧ _ ∧ _ ∧ _ ∧ _ ∧ Below W1.heap.size W1 (w'.alloc (Obj.cells #[Value.string c.f0, Value.string (sideS l0_1 c.f1 c.f2), Value.string (invS c.f0)] 9))›).2.2.2.2.2
      obtain ⟨W2, hW2⟩ : ∃ W2, W2 = w'.alloc (Obj.cells #[Value.string c.f0, Value.string (sideS l0_1 c.f1 c.f2), Value.string (invS c.f0)] 9) := ⟨_, rfl⟩
      rw [← hW2] at hbz ⊢
      obtain ⟨b3, hb3⟩ : ∃ b3, b3 = w'.heap.size := ⟨_, rfl⟩
      rw [← hb3]
      have HL0 : Aside0 (W2.heap[b3]? = some (.cells #[Value.string c.f0, Value.string (sideS l0_1 c.f1 c.f2), Value.string (invS c.f0)] 9 (0, 0))) := ⟨by rw [hW2, hb3]; exact Go.heap_alloc_new _ _⟩
      have HZ0 : Aside0 (W1.heap.size ≤ b3) := ⟨by
        have h1 := hbz.size
        rw [hW2, World.size_alloc] at h1
        have h2 : Below W1.heap.size W1 w' := by assumption
        rw [hb3]; exact h2.size⟩
      have HLT : Aside0 (b3 < W2.heap.size) := ⟨blk_lt HL0.out⟩
      have HB2 : Aside0 (Below W0.heap.size W0 W2) := ⟨HB1.out.trans (hbz.mono HB1.out.size)⟩
      have HO2 : Aside0 (Kd.R (Kd.int .u8) 5 W2 W0.heap.size (fun k => k ≠ b3) u5 ys) := ⟨Kd.R_mono (Kd.R_below (Kd.R_bound HO1.out) hbz) (fun q hq => by have := hq.2.2.1; have := HZ0.out; omega)⟩
      clear hbz hW2 hb3 HS HR1 HO1 HC1 HP1 HB1 hx0 hx1 hx2 HPr HBw HO HB hb00
      obtain ⟨wo, rfl⟩ : ∃ wo : World, wo = wr := ⟨_, rfl⟩
      have hWL : (cellW l0_1 c).length = 3 := rfl
      go_loopw [5, 29] (fun v i wq => ∃ (j : Nat) (zs : List Int), j ≤ 3 ∧ i = .int .i64 j ∧ Aside0 (zs = redL ((l1.take k).flatMap (cellW l0_1) ++ (cellW l0_1 c).take j)) ∧ Aside0 (Kd.R (Kd.int .u8) 5 wq W0.heap.size (fun q => q ≠ b3) v zs) ∧ Aside0 (Below W0.heap.size W0 wq) ∧ Aside0 (b3 < wq.heap.size) ∧ Aside0 (wq.heap[b3]? = some (.cells #[Value.string c.f0, Value.string (sideS l0_1 c.f1 c.f2), Value.string (invS c.f0)] 9 (0, 0)))) (fun _ i _ => 3 - (intOf i).toNat)
      case atStart => exact ⟨0, ys, by omega, rfl, ⟨by rw [List.take_zero, List.append_nil, HY.out]; rfl⟩, HO2, HB2, HLT, HL0⟩
      case round =>
        clear HO2 HB2 HLT HL0
        obtain ⟨j, zs, hj, rfl, HYj, HOj, HBj, HLTj, HLj⟩ := hrel
        by_cases hj3 : j < 3
        · obtain ⟨s, hs⟩ : ∃ s, (cellW l0_1 c)[j]'(by rw [hWL]; exact hj3) = s := ⟨_, rfl⟩
          have hcell : wr.cell? ⟨b3, j, none⟩ = some (.string s) := by
            rw [← hs]
            have := (lit_C wr b3 9 (0, 0) (cellW l0_1 c) (by rw [hWL]; omega) _ rfl HLj.out)
            obtain ⟨ad', e', hc'⟩ := Kd.at_string this (j : Int) (by omega) (by rw [hWL]; omega)
            cases e'
            rw [Int.toNat_natCast, add_plain] at hc'
            rw [hc', rdOf, Int.toNat_natCast, List.getD_eq_getElem?_getD, List.getElem?_eq_getElem (by rw [hWL]; exact hj3)]
            rfl
          have hst : (cellW l0_1 c).take (j + 1) = (cellW l0_1 c).take j ++ [s] := by
            rw [List.take_succ_eq_append_getElem (by rw [hWL]; exact hj3), hs]
          have hsz1 : sizes ((l1.take k).flatMap (cellW l0_1) ++ (cellW l0_1 c).take j) + s.size ≤ 100000000 := by
            have h1 := sizes_append ((l1.take k).flatMap (cellW l0_1)) (cellW l0_1 c)
            have h2 := sizes_append ((l1.take k).flatMap (cellW l0_1)) ((cellW l0_1 c).take j)
            have h3 := sizes_take (cellW l0_1 c) (j + 1)
            rw [hst, sizes_snoc] at h3
            have := HSz.out
            omega
          have HY2 := Aside0.mk (show (bytesOf s).foldl (pushW canc) zs = redL ((l1.take k).flatMap (cellW l0_1) ++ (cellW l0_1 c).take (j + 1)) by rw [hst, ← List.append_assoc, redL_snoc, HYj.out])
          have HLn : Aside0 (zs.length + (bytesOf s).length ≤ 1000000000) := ⟨by
            have := redL_len ((l1.take k).flatMap (cellW l0_1) ++ (cellW l0_1 c).take j)
            rw [← HYj.out] at this
            rw [bytesOf_length]; omega⟩
          have hss : s.size ≤ 100000000 := by omega
          clear hsz1 hst hs HYj
          obtain ⟨Ao, co, eo⟩ := Kd.R_slice HOj.out
          subst eo
          have kb := fun W => print_bytes (P := Try.prog) 9 67 5 Try.underlying9 Try.underlying67 Try.underlying5 s W
          go_wp2_with (go_at_call 62; go_must ((refine (push_callsN (fun k_ => some k_ = (.slice Ao zs.length co : Value).ownBlock) _ zs _ _ _ (bytesOf s) (bytesOf_length s) W0 _ ?aB ?aO ?aL ?aC HLn.out).mono ?_); (case aB => exact bytes_below HBj.out HBj.out.size _ _); (case aO => exact Kd.R_tight rfl (Kd.R_below HOj.out (bytes_below (Below.refl _ _) (Nat.le_refl _) _ _))); (case aC => exact grownCap_ge _ _ _ _); (case aL => exact bytes_kept wr 5 s (by omega) (fun h => by have := Kd.R_lt HOj.out _ h.symm; omega)); rintro e w1 ⟨v1, rfl, ho1, hb1, hk1⟩; have HL1 : Aside0 (w1.heap[b3]? = some (.cells #[Value.string c.f0, Value.string (sideS l0_1 c.f1 c.f2), Value.string (invS c.f0)] 9 (0, 0))) := ⟨(hk1.2 b3 (by rw [Lib.bytesWorld_size]; have := HLTj.out; omega) (fun h => (HOj.out.1 _ h.symm) rfl)).trans ((Lib.bytesWorld_at_old wr 5 s b3 HLTj.out).trans HLj.out)⟩; have HLT1 : Aside0 (b3 < w1.heap.size) := ⟨blk_lt HL1.out⟩; have HO1 := Aside0.mk (Kd.R_mono (ok' := fun q => q ≠ b3) ho1 (fun q hq => by rcases hq with hq | hq; (exact HOj.out.1 _ hq.symm); (rw [Lib.bytesWorld_size] at hq; have := HLTj.out; omega))); have HB1 := Aside0.mk hb1; clear ho1 hb1 hk1))
          go_roundw
          case rel => exact ⟨j + 1, _, by omega, by go_num, HY2, HO1, HB1, HLT1, HL1⟩
          case measure => simp [intOf]; omega
        · have hje : j = 3 := by omega
          have HY2 : Aside0 (zs = boundL l0_1 (l1.take (k + 1))) := ⟨by rw [HTk.out, boundL_snoc, HYj.out, hje]; rfl⟩
          clear hje
          go_wp2
          go_roundw
          case rel => exact ⟨k + 1, _, by omega, by go_num, HY2, ⟨Kd.R_mono HOj.out (fun _ _ => trivial)⟩, HBj⟩
          case measure => simp [intOf]; omega
    · have hke : k = l1.length := by omega
      have HF : Aside0 (ys = boundL l0_1 l1) := ⟨by rw [HY.out, hke, List.take_length]⟩
      clear hke
      obtain ⟨Ao, co, eo⟩ := Kd.R_slice HO.out
      subst eo
      have hcv := Kd.C_string (P := Try.prog) (c := co) Try.underlying67 Try.underlying5 Try.underlying9 (Kd.R_reads' HO.out).2.2
      go_wp2
      go_ret
      exact ⟨by rw [HF.out]; rfl, HB0.out.trans (HB.out.mono (Nat.le_of_lt HZW.out))⟩
end Go.Proofs.Ytmmichdlgjcmoaa.PAll
