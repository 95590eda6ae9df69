import Derived.Test.YtmmichdlgjcmoaaPAllx0
import Derived.Test.YtmmichdlgjcmoaaPAllx8
import Derived.Test.YtmmichdlgjcmoaaPureC
import Derived.Test.YtmmichdlgjcmoaaPureD
import Derived.Deep.DeepMust
import Derived.Deep.RegionHeld3
import Derived.RegionTactic
import Derived.Deep.QuietTactic
import Derived.BigQuiet
namespace Go.Proofs.Ytmmichdlgjcmoaa.PAll
open Go.RowKit Go.Proofs.YtmmichdlgjcmoaaW.PrintWords Go.Proofs.YtmmichdlgjcmoaaW.PrintLast Go.Proofs.YtmmichdlgjcmoaaW.PrintMore H
set_option linter.unusedVariables false
set_option linter.unusedSimpArgs false
namespace H
theorem proves_to (g : Int) (A : Option Addr) (c : Nat) (rels : List ByteArray) (A1 : Option Addr) (c1 : Nat) (d : List S59) (s : ByteArray) (r : Int) (hr : ProvesS g rels d s = r) (w : World) (hC : Kd.C Kd.string w A rels.length rels) (hc : rels.length ≤ c) (hD : Kd.C k59 w A1 d.length d) (hc1 : d.length ≤ c1) :
    Calls Try.prog 14 #[.agg #[.int .i64 g, .slice A rels.length c], .slice A1 d.length c1, .string s] w fun e w' => e = .returned (.int .i64 r) ∧ Below w.heap.size w w' := by
  subst hr
  obtain ⟨k, hk⟩ := (disk_Proves_ev g rels d s).rounds
  exact disk_Proves.calls k g A c rels (fun k_ => k_ < w.heap.size) A1 c1 d s _ w hC hc (Kd.V_mk hc1 (Kd.C_F k59_heap hD)) hk
theorem proves_zero {g : Int} {rels : List ByteArray} {d : List S59} {s : ByteArray} (h : ProvesS g rels d s = 0) : isPresS g rels = true ∧ isWordL g (bytesOf s) = true ∧ isDiskS g rels.length d = true := by
  unfold ProvesS at h
  split at h
  · rename_i he
    obtain ⟨h1, h2, h3⟩ := examine_zero he
    exact ⟨h1, h2 s (by simp), h3 d (by simp)⟩
  · rename_i he
    exact absurd h he
def sumC (rels : List ByteArray) (d : List S59) : Nat := (d.map fun c => c.f0.size + 2 * (rdOf ByteArray.empty rels c.f1).size).sum
theorem sumC_snoc (rels : List ByteArray) (d : List S59) (c : S59) : sumC rels (d ++ [c]) = sumC rels d + (c.f0.size + 2 * (rdOf ByteArray.empty rels c.f1).size) := by simp [sumC]
theorem sumC_cons (rels : List ByteArray) (d : List S59) (c : S59) : sumC rels (c :: d) = (c.f0.size + 2 * (rdOf ByteArray.empty rels c.f1).size) + sumC rels d := by simp [sumC]
theorem sumC_le {rels : List ByteArray} (hr : relsL rels) : ∀ (d : List S59), (∀ c ∈ d, 0 ≤ c.f1 ∧ c.f1 < rels.length) → sumC rels d ≤ conjs d + 400 * d.length := by
  intro d
  induction d with
  | nil => intro _; exact Nat.le_refl _
  | cons c d ih =>
    intro h
    have h1 := ih (fun x hx => h x (List.mem_cons_of_mem _ hx))
    have h2 := (hr _ (rdOf_mem (h c (List.mem_cons_self ..)).1 (h c (List.mem_cons_self ..)).2)).1
    rw [sumC_cons, conjs_cons, List.length_cons]
    omega
def insPairs (c : S59) : List S52 := (bytesOf c.f0).zipIdx.map fun p => ⟨1, (p.2 : Int), index p.1, 0, 0, false⟩
def insCell (c : S59) : List S52 := insPairs c ++ [⟨3, (c.f0.size : Int), 0, c.f1, 0, !c.f2⟩]
def wordC (rels : List ByteArray) (s : ByteArray) (d : List S59) : ByteArray := d.foldl (fun s c => c.f0 ++ sideS rels c.f1 (!c.f2) ++ invS c.f0 ++ s) s
def delStep (p : List Int × List S52) (x : Int) : List Int × List S52 :=
  match p.1.getLast? with
  | some y => if canc y x = true then (p.1.dropLast, p.2 ++ [⟨2, (p.1.length : Int) - 1, 0, 0, 0, false⟩]) else (p.1 ++ [x], p.2)
  | none => (p.1 ++ [x], p.2)
def toMovesL (rels : List ByteArray) (d : List S59) (s : ByteArray) : List S52 := ((bytesOf (wordC rels s d)).foldl delStep ([], d.flatMap insCell)).2
theorem insPairs_len (c : S59) : (insPairs c).length = c.f0.size := by simp [insPairs, bytesOf_length]
theorem insCell_len (c : S59) : (insCell c).length = c.f0.size + 1 := by simp [insCell, insPairs_len]
theorem insPairs_take (c : S59) (j : Nat) (h : j < c.f0.size) : (insPairs c).take (j + 1) = (insPairs c).take j ++ [⟨1, (j : Int), index (bt c.f0 (j : Int)), 0, 0, false⟩] := by
  have hl : j < (insPairs c).length := by rw [insPairs_len]; exact h
  rw [List.take_succ_eq_append_getElem hl]
  congr 1
  have hb : j < (bytesOf c.f0).length := by rw [bytesOf_length]; exact h
  have : (bytesOf c.f0)[j]'hb = bt c.f0 (j : Int) := by rw [← rd_bytesOf]; simp [rd, bytesOf_length, h]
  simp [insPairs, this]
theorem flat_len (rels : List ByteArray) : ∀ (d : List S59), (d.flatMap insCell).length ≤ sumC rels d + d.length := by
  intro d
  induction d with
  | nil => exact Nat.le_refl _
  | cons c d ih =>
    rw [List.flatMap_cons, List.length_append, insCell_len, sumC_cons, List.length_cons]
    omega
theorem wordC_snoc (rels : List ByteArray) (s : ByteArray) (d : List S59) (c : S59) : wordC rels s (d ++ [c]) = c.f0 ++ sideS rels c.f1 (!c.f2) ++ invS c.f0 ++ wordC rels s d := by simp [wordC, List.foldl_append]
theorem side_size (rels : List ByteArray) (i : Int) (b : Bool) : (sideS rels i b).size = (rdOf ByteArray.empty rels i).size := by
  unfold sideS
  cases b with
  | true => simp [invS_size]
  | false => simp
theorem wordC_size (rels : List ByteArray) : ∀ (d : List S59) (s : ByteArray), (wordC rels s d).size ≤ s.size + 2 * sumC rels d := by
  intro d
  induction d with
  | nil => intro s; exact Nat.le_refl _
  | cons c d ih =>
    intro s
    have h := ih (c.f0 ++ sideS rels c.f1 (!c.f2) ++ invS c.f0 ++ s)
    rw [sumC_cons]
    simp only [ByteArray.size_append, invS_size, side_size] at h
    show (wordC rels (c.f0 ++ sideS rels c.f1 (!c.f2) ++ invS c.f0 ++ s) d).size ≤ _
    omega
theorem del_cut {st : List Int} {o : List S52} {x : Int} (h : 0 < st.length) (hc : canc (rd st ((st.length : Int) - 1)) x = true) : delStep (st, o) x = (st.take (st.length - 1), o ++ [⟨2, (st.length : Int) - 1, 0, 0, 0, false⟩]) := by
  unfold delStep
  simp only [last_rd h, hc, if_true, List.dropLast_eq_take]
theorem del_add {st : List Int} {o : List S52} {x : Int} (hc : 0 < st.length → canc (rd st ((st.length : Int) - 1)) x = false) : delStep (st, o) x = (st ++ [x], o) := by
  unfold delStep
  by_cases h : 0 < st.length
  · simp [last_rd h, hc h]
  · have : st = [] := List.eq_nil_of_length_eq_zero (by omega)
    subst this
    rfl
theorem take_bytes (s : ByteArray) (j : Nat) (h : j < s.size) : (bytesOf s).take (j + 1) = (bytesOf s).take j ++ [bt s (j : Int)] := by
  rw [List.take_succ_eq_append_getElem (by rw [bytesOf_length]; exact h), ← rd_bytesOf]
  simp [rd, bytesOf_length, h]
theorem not52 : ∀ q, q ∈ (5 : Nat) :: (Kd.int .u8).E → q ≠ 52 := fun q hq => by
  rcases List.mem_cons.1 hq with rfl | h
  · decide
  · exact absurd h (by show q ∉ ([] : List Nat); simp)
theorem not5 : ∀ q, q ∈ (52 : Nat) :: k52.E → q ≠ 5 := fun q hq => by
  rcases List.mem_cons.1 hq with rfl | h
  · decide
  · exact absurd h (by show q ∉ ([] : List Nat); simp)
set_option maxHeartbeats 1600000 in
set_option maxRecDepth 100000 in
theorem toMoves_refused (g : Int) (A : Option Addr) (c : Nat) (rels : List ByteArray) (A1 : Option Addr) (c1 : Nat) (d : List S59) (s : ByteArray) (r : Int) (hr : ProvesS g rels d s = r) (hr0 : r ≠ 0) (w : World) (hC : Kd.C Kd.string w A rels.length rels) (hc : rels.length ≤ c) (hD : Kd.C k59 w A1 d.length d) (hc1 : d.length ≤ c1) :
    Calls Try.prog 34 #[.agg #[.int .i64 g, .slice A rels.length c], .slice A1 d.length c1, .string s] w fun e w' => ∃ v, e = .returned (.tuple #[v, .int .i64 r]) ∧ Kd.R k52 52 w' w.heap.size (fun _ => True) v [] ∧ Below w.heap.size w w' := by
  have HR := Aside0.mk hC
  have HD := Aside0.mk hD
  have HRC := Aside0.mk hc
  have HDC := Aside0.mk hc1
  have HPR := Aside0.mk hr
  clear hC hc hD hc1 hr
  obtain ⟨W1, hW1⟩ : ∃ W1, W1 = w.alloc (.cells #[.int .i64 g, .slice A rels.length c] 24) := ⟨_, rfl⟩
  have HB1 : Aside0 (Below w.heap.size w W1) := ⟨by rw [hW1]; exact below_alloc (Below.refl _ _) _⟩
  have hr' : (r != 0) = true := by simp [hr0]
  go_enter Try.func34, Try.ntmps34
  go_wp2_with (go_at_call 14; go_must (rw [← hW1]; refine (proves_to g A c rels A1 c1 d s r HPR.out _ (Kd.C_below HR.out HB1.out) HRC.out (Kd.C_below HD.out HB1.out) HDC.out).mono ?_; rintro e w' ⟨rfl, hb⟩; have HB2 := Aside0.mk (below_step HB1.out hb); clear hb))
  go_ret2
  exact ⟨_, rfl, Kd.R_nil _ _ _ _ _, HB2.out⟩
set_option maxHeartbeats 1600000 in
set_option maxRecDepth 100000 in
theorem toMoves_runs (g : Int) (A : Option Addr) (c : Nat) (rels : List ByteArray) (A1 : Option Addr) (c1 : Nat) (d : List S59) (s : ByteArray) (hr : ProvesS g rels d s = 0) (w : World) (hC : Kd.C Kd.string w A rels.length rels) (hc : rels.length ≤ c) (hD : Kd.C k59 w A1 d.length d) (hc1 : d.length ≤ c1) (r1 : List S52) (r2 : Int) (h : (if s.size + sumC rels d ≤ 20000 then (toMovesL rels d s, (0 : Int)) else ([], 2)) = (r1, r2)) :
    Calls Try.prog 34 #[.agg #[.int .i64 g, .slice A rels.length c], .slice A1 d.length c1, .string s] w fun e w' => ∃ v, e = .returned (.tuple #[v, .int .i64 r2]) ∧ Kd.R k52 52 w' w.heap.size (fun _ => True) v r1 ∧ Below w.heap.size w w' := by
  have HH := Aside0.mk h
  clear h
  have HR := Aside0.mk hC
  have HD := Aside0.mk hD
  have HRC := Aside0.mk hc
  have HDC := Aside0.mk hc1
  have HPR := Aside0.mk hr
  have hdl : d.length ≤ 100000 := (isDisk_len (proves_zero hr).2.2).1
  have hsz : s.size ≤ 100000 := isWordL_len (proves_zero hr).2.1
  have HCELL : Aside0 (∀ x ∈ d, 0 ≤ x.f1 ∧ x.f1 < rels.length ∧ x.f0.size ≤ 100000 ∧ allL (bytesOf x.f0) ∧ isWordL g (bytesOf x.f0) = true) := ⟨fun x hx => cellOk_of ((isDisk_len (proves_zero hr).2.2).2.1 x hx)⟩
  have HRL : Aside0 (relsL rels) := ⟨relsL_of (proves_zero hr).1⟩
  have HSB : Aside0 (∀ k, sumC rels (d.take k) ≤ 41000000) := ⟨fun k => by
    have h1 := sumC_le HRL.out (d.take k) (fun x hx => ⟨(HCELL.out x (List.mem_of_mem_take hx)).1, (HCELL.out x (List.mem_of_mem_take hx)).2.1⟩)
    have h2 := (isDisk_len (proves_zero hr).2.2).2.2
    have h3 : conjs (d.take k) ≤ conjs d := by
      conv => rhs; rw [← List.take_append_drop k d]
      rw [conjs_append]; omega
    rw [List.length_take] at h1
    omega⟩
  clear hC hc hD hc1 hr
  obtain ⟨W1, hW1⟩ : ∃ W1, W1 = w.alloc (.cells #[.int .i64 g, .slice A rels.length c] 24) := ⟨_, rfl⟩
  have HB1 : Aside0 (Below w.heap.size w W1) := ⟨by rw [hW1]; exact below_alloc (Below.refl _ _) _⟩
  have HP1 : Aside0 (W1.heap[w.heap.size]? = some (.cells #[.int .i64 g, .slice A rels.length c] 24 (0, 0))) := ⟨by rw [hW1]; exact Go.heap_alloc_new _ _⟩
  go_enter Try.func34, Try.ntmps34
  go_wp2_with (go_at_call 14; go_must (rw [← hW1]; clear hW1; refine (proves_to g A c rels A1 c1 d s 0 HPR.out _ (Kd.C_below HR.out HB1.out) HRC.out (Kd.C_below HD.out HB1.out) HDC.out).mono ?_; rintro e w2 ⟨rfl, hb⟩; have HB2 := Aside0.mk (below_step HB1.out hb); have HP2 := Aside0.mk (blk_below HP1.out hb); clear hb))
  go_loopw [9, 32] (fun sm i wr => ∃ (k : Nat), k ≤ d.length ∧ i = .int .i64 k ∧ sm = .int .i64 ((s.size + sumC rels (d.take k) : Nat) : Int) ∧ Aside0 (Below w2.heap.size w2 wr)) (fun _ i _ => d.length - (intOf i).toNat)
  case atStart => exact ⟨0, Nat.zero_le _, rfl, by simp [sumC], ⟨Below.refl _ _⟩⟩
  case round =>
    obtain ⟨k, hk, rfl, rfl, HB⟩ := hrel
    have HBw := Aside0.mk (below_step HB2.out HB.out)
    have hb2 := HB.out
    by_cases hlt : k < d.length
    · obtain ⟨x, hx⟩ : ∃ x, rd_T59 d (k : Int) = x := ⟨_, rfl⟩
      obtain ⟨ad, e1, hx0, hx1, hx2⟩ := at_T59 (Kd.C_below HD.out HBw.out) (k : Int) (by omega) (by omega)
      cases e1
      rw [hx, Int.toNat_natCast] at hx0 hx1 hx2
      have hxm : x ∈ d := by rw [← hx]; exact rd59_mem d k hlt
      obtain ⟨q1, q2, q3, q4, q5⟩ := HCELL.out x hxm
      have hrz := (HRL.out _ (rdOf_mem q1 q2)).1
      have HTK : Aside0 (sumC rels (d.take (k + 1)) = sumC rels (d.take k) + (x.f0.size + 2 * (rdOf ByteArray.empty rels x.f1).size)) := ⟨by rw [take59 d k hlt, hx, sumC_snoc]⟩
      have hsb := HSB.out k
      obtain ⟨W3, hW3⟩ : ∃ W3, W3 = wr.alloc (.cells #[.string x.f0, .int .i64 x.f1, .bool x.f2] 59) := ⟨_, rfl⟩
      have HB3 : Aside0 (Below wr.heap.size wr W3) := ⟨by rw [hW3]; exact below_alloc (Below.refl _ _) _⟩
      have HC3 : Aside0 (W3.heap[wr.heap.size]? = some (.cells #[.string x.f0, .int .i64 x.f1, .bool x.f2] 59 (0, 0))) := ⟨by rw [hW3]; exact Go.heap_alloc_new _ _⟩
      have HP3 := Aside0.mk (blk_below HP2.out (below_step HB.out HB3.out))
      obtain ⟨ar, e2, hrc⟩ := Kd.at_string (Kd.C_below (Kd.C_below HR.out HBw.out) HB3.out) x.f1 q1 q2
      have kw1 : IntKind.i64.wrap (2 * ((rdOf ByteArray.empty rels x.f1).size : Int)) = 2 * ((rdOf ByteArray.empty rels x.f1).size : Int) := IntWalk.i64_in _ (by omega)
      have kw2 : IntKind.i64.wrap ((x.f0.size : Int) + 2 * ((rdOf ByteArray.empty rels x.f1).size : Int)) = (x.f0.size : Int) + 2 * ((rdOf ByteArray.empty rels x.f1).size : Int) := IntWalk.i64_in _ (by omega)
      have kw3 : IntKind.i64.wrap (((s.size + sumC rels (d.take k) : Nat) : Int) + ((x.f0.size : Int) + 2 * ((rdOf ByteArray.empty rels x.f1).size : Int))) = ((s.size + sumC rels (d.take k) : Nat) : Int) + ((x.f0.size : Int) + 2 * ((rdOf ByteArray.empty rels x.f1).size : Int)) := IntWalk.i64_in _ (by omega)
      cases e2
      have HKW := Aside0.mk (And.intro kw1 (And.intro kw2 kw3))
      clear kw1 kw2 kw3
      go_wp2_with (fail)
      rw [← hW3]
      clear hW3 hx0 hx1 hx2
      have hc0 : W3.cell? ⟨wr.heap.size, 0, none⟩ = some (.string x.f0) := (blk_cell HC3.out 0).trans rfl
      have hc1' : W3.cell? ⟨wr.heap.size, 1, none⟩ = some (.int .i64 x.f1) := (blk_cell HC3.out 1).trans rfl
      have hp1 : W3.cell? ⟨w.heap.size, 1, none⟩ = some (.slice (some ar) rels.length c) := (blk_cell HP3.out 1).trans rfl
      obtain ⟨kw1, kw2, kw3⟩ := HKW.out
      go_quiet (fail)
      go_wp2
      go_roundw
      case rel => exact ⟨k + 1, by omega, by go_num, by rw [HTK.out]; congr 1; push_cast; omega, ⟨below_step HB.out (by first | exact HB3.out | exact pw_below_drewN HB3.out _)⟩⟩
      case measure => simp [intOf]; omega
    · have hke : k = d.length := by omega
      have HSE : Aside0 (sumC rels (d.take k) = sumC rels d) := ⟨by rw [hke, List.take_length]⟩
      clear hke
      by_cases hbig : s.size + sumC rels d ≤ 20000
      · have hh := HH.out
        rw [if_pos hbig] at hh
        obtain ⟨rfl, rfl⟩ := Prod.mk.inj hh
        clear hh HH
        have hnb : ¬ ((s.size + sumC rels (d.take k) : Nat) : Int) > 20000 := by rw [HSE.out]; omega
        have hnd : decide ((20000 : Int) < ((s.size + sumC rels (d.take k) : Nat) : Int)) = false := by simp; omega
        have HBIG := Aside0.mk hbig
        clear hbig
        go_wp2
        clear hnb hnd HSE HB
        have HPr := Aside0.mk (blk_below HP2.out hb2)
        obtain ⟨V0, hV0⟩ : ∃ V0, V0 = wr := ⟨_, rfl⟩
        subst hV0
        go_loopw [2, 12, 55] (fun sw v i wq => ∃ (k : Nat) (sd : ByteArray) (out : List S52), k ≤ d.length ∧ i = .int .i64 k ∧ sw = .string sd ∧ Aside0 (sd = wordC rels s (d.take k)) ∧ Aside0 (out = (d.take k).flatMap insCell) ∧ Aside0 (Kd.R k52 52 wq V0.heap.size (fun _ => True) v out) ∧ Aside0 (Below V0.heap.size V0 wq)) (fun _ _ i _ => d.length - (intOf i).toNat)
        case atStart => exact ⟨0, s, [], Nat.zero_le _, rfl, rfl, ⟨rfl⟩, ⟨rfl⟩, ⟨Kd.R_nil _ _ _ _ _⟩, ⟨Below.refl _ _⟩⟩
        case round =>
          obtain ⟨k, sd, out, hk, rfl, rfl, HSD, HOU, HO, HB⟩ := hrel
          have HBq := Aside0.mk (below_step HBw.out HB.out)
          by_cases hlt : k < d.length
          · obtain ⟨x, hx⟩ : ∃ x, rd_T59 d (k : Int) = x := ⟨_, rfl⟩
            obtain ⟨ad, e1, hx0, hx1, hx2⟩ := at_T59 (Kd.C_below HD.out HBq.out) (k : Int) (by omega) (by omega)
            cases e1
            rw [hx, Int.toNat_natCast] at hx0 hx1 hx2
            have hxm : x ∈ d := by rw [← hx]; exact rd59_mem d k hlt
            have HTK : Aside0 (d.take (k + 1) = d.take k ++ [x]) := ⟨by rw [take59 d k hlt, hx]⟩
            clear hx
            obtain ⟨q1, q2, q3, q4, q5⟩ := HCELL.out x hxm
            have HQ := Aside0.mk (And.intro q4 q5)
            have hrz := (HRL.out _ (rdOf_mem q1 q2)).1
            clear q4 q5 hxm
            obtain ⟨W3, hW3⟩ : ∃ W3, W3 = wr.alloc (.cells #[.string x.f0, .int .i64 x.f1, .bool x.f2] 59) := ⟨_, rfl⟩
            have HB3 : Aside0 (Below wr.heap.size wr W3) := ⟨by rw [hW3]; exact below_alloc (Below.refl _ _) _⟩
            have HC3 : Aside0 (W3.heap[wr.heap.size]? = some (.cells #[.string x.f0, .int .i64 x.f1, .bool x.f2] 59 (0, 0))) := ⟨by rw [hW3]; exact Go.heap_alloc_new _ _⟩
            have kb := fun W => print_bytes (P := Try.prog) 9 67 5 Try.underlying9 Try.underlying67 Try.underlying5 x.f0 W
            go_wp2
            clear kb
            rw [← hW3]
            have hz3 : W3.heap.size = wr.heap.size + 1 := by rw [hW3, World.size_alloc]
            clear hW3 hx0 hx1 hx2
            obtain ⟨V1, hV1⟩ : ∃ V1, V1 = Lib.bytesWorld W3 5 x.f0 := ⟨_, rfl⟩
            have HB31 : Aside0 (Below W3.heap.size W3 V1) := ⟨by rw [hV1]; exact bytes_below (Below.refl _ _) (Nat.le_refl _) _ _⟩
            have hz1 : V1.heap.size = wr.heap.size + 1 + 1 := by rw [hV1, Lib.bytesWorld_size, hz3]
            have HBY : Aside0 (∀ W_, Kept V1 W_ (fun q => q ≠ wr.heap.size ∧ q ≠ wr.heap.size + 1) → Kd.C (Kd.int .u8) W_ (some ⟨wr.heap.size + 1, 0, none⟩) x.f0.size (bytesOf x.f0)) := ⟨by rw [hV1, ← hz3]; exact bytes_kept W3 5 x.f0 (by omega) (fun h => h.2 rfl)⟩
            rw [← hV1]
            clear hV1
            have HZ1 := Aside0.mk hz1
            have HC1 := Aside0.mk (blk_below HC3.out HB31.out)
            have HBr1 : Aside0 (Below wr.heap.size wr V1) := ⟨below_step HB3.out HB31.out⟩
            have HO1 : Aside0 (Kd.R k52 52 V1 V0.heap.size (fun q => q ≠ wr.heap.size ∧ q ≠ wr.heap.size + 1) u12 out) := ⟨Kd.R_below (Kd.R_mono (Kd.R_bound HO.out) (fun q hq => by have := hq.2.2.1; omega)) HBr1.out⟩
            have HB01 : Aside0 (Below V0.heap.size V0 V1) := ⟨below_step HB.out HBr1.out⟩
            have HOL : Aside0 (out.length ≤ 42000000) := ⟨by
              have h1 := flat_len rels (d.take k)
              have h2 := HSB.out k
              rw [List.length_take] at h1
              rw [HOU.out]; omega⟩
            have HQb := fun k => bt_range x.f0 k
            clear hz1 hz3
            obtain ⟨wo, rfl⟩ : ∃ wo : World, wo = wr := ⟨_, rfl⟩
            go_loopw [12, 63] (fun v i wi => ∃ (j : Nat) (o2 : List S52), j ≤ x.f0.size ∧ i = .int .i64 j ∧ Aside0 (o2 = out ++ (insPairs x).take j) ∧ Aside0 (Kd.R k52 52 wi V0.heap.size (fun q => q ≠ wo.heap.size ∧ q ≠ wo.heap.size + 1) v o2) ∧ Aside0 (Below V0.heap.size V0 wi) ∧ Aside0 (Kept V1 wi (fun q => q ≠ wo.heap.size ∧ q ≠ wo.heap.size + 1))) (fun _ i _ => x.f0.size - (intOf i).toNat)
            case atStart => exact ⟨0, out, Nat.zero_le _, rfl, ⟨by simp⟩, HO1, HB01, ⟨Kept.refl _ _⟩⟩
            case round =>
              clear HO1 HB01
              obtain ⟨j, o2, hj, rfl, HO2E, HO2, HB2', HK⟩ := hrel
              by_cases hjl : j < x.f0.size
              · obtain ⟨ay, e3, hcell⟩ := Kd.at_int (HBY.out wr HK.out) (j : Int) (by omega) (by omega)
                cases e3
                rw [rd_bytesOf, add_plain, Int.toNat_natCast] at hcell
                have hq := HQb (j : Int)
                have HLN : Aside0 ((o2.length + 1) * 48 ≤ 140737488355328) := ⟨by
                  have h1 := HOL.out
                  have h2 : o2.length = out.length + min j x.f0.size := by rw [HO2E.out, List.length_append, List.length_take, insPairs_len]
                  omega⟩
                have HO3E : Aside0 (o2 ++ [(⟨1, (j : Int), index (bt x.f0 (j : Int)), 0, 0, false⟩ : S52)] = out ++ (insPairs x).take (j + 1)) := ⟨by rw [HO2E.out, insPairs_take x j hjl, List.append_assoc]⟩
                clear HO2E
                go_wp2_with (first | (go_at_call 55; refine (index_calls _ _ hq.1 hq.2).mono ?_; rintro e w' ⟨rfl, rfl⟩) | ((with_reducible refine gate_builtin (b := .append) (xs := #[.tmp 68, .tmp 73]) rfl ?_); at_builtin; go_must ((refine Kd.R_append k52 (w0 := V0) V0.heap.size rfl (.tmp 68) (.tmp 73) 40 52 (.agg #[(.int .i64 0), (.int .i64 0), (.int .i64 0), (.int .i64 0), (.int .i64 0), (.bool false)]) 48 rfl Try.underlying40 info52 rfl (by decide) (by omega) _ o2 (⟨1, (j : Int), index (bt x.f0 (j : Int)), 0, 0, false⟩ : S52) [.int .i64 1, .int .i64 (j : Int), .int .i64 (index (bt x.f0 (j : Int))), .int .i64 0, .int .i64 0, .bool false] (fun q => q ≠ wo.heap.size ∧ q ≠ wo.heap.size + 1) (fun _ => False) rfl rfl ?aP (fun _ hk => hk.elim) ?aF ?aO ?aB ?aS ?aL ?_); (case aP => exact k52_mkM _ _ _ _); (case aB => exact HB2'.out); (case aF => exact fun k hk => by have := HK.out.1; have := HZ1.out; omega); (case aO => exact HO2.out); (case aS => exact HB2'.out.size); (case aL => have := HLN.out; omega); intro v1 w1 hoa hba hga hat; have HBn := Aside0.mk hba; have HKn := Aside0.mk (Kept.of_grown (S := (fun q => q ≠ wo.heap.size ∧ q ≠ wo.heap.size + 1)) hga HK.out (fun k e_ => .inl (HO2.out.1 k e_))); have HOn := Aside0.mk hoa; clear hba hga hat hoa)))
                go_roundw
                case rel => exact ⟨j + 1, _, by omega, by go_num, HO3E, HOn, HBn, HKn⟩
                case measure => simp [intOf]; omega
              · have hje : j = x.f0.size := by omega
                have HLN : Aside0 ((o2.length + 1) * 48 ≤ 140737488355328) := ⟨by
                  have h1 := HOL.out
                  have h2 : o2.length = out.length + min j x.f0.size := by rw [HO2E.out, List.length_append, List.length_take, insPairs_len]
                  omega⟩
                have HO3E : Aside0 (o2 ++ [(⟨3, (x.f0.size : Int), 0, x.f1, 0, !x.f2⟩ : S52)] = (d.take (k + 1)).flatMap insCell) := ⟨by
                  rw [HO2E.out, HTK.out, List.flatMap_append, ← HOU.out, hje, List.take_of_length_le (by rw [insPairs_len]; exact Nat.le_refl _)]
                  simp [insCell]⟩
                clear HO2E hje
                have HCr := Aside0.mk ((HK.out.2 wo.heap.size (by have := HZ1.out; omega) (fun h => h.1 rfl)).trans HC1.out)
                have hc0 : wr.cell? ⟨wo.heap.size, 0, none⟩ = some (.string x.f0) := (blk_cell HCr.out 0).trans rfl
                have hc1' : wr.cell? ⟨wo.heap.size, 1, none⟩ = some (.int .i64 x.f1) := (blk_cell HCr.out 1).trans rfl
                have hc2' : wr.cell? ⟨wo.heap.size, 2, none⟩ = some (.bool x.f2) := (blk_cell HCr.out 2).trans rfl
                go_wp2_with (((with_reducible refine gate_builtin (b := .append) (xs := #[.tmp 76, .tmp 86]) rfl ?_); at_builtin; go_must ((refine Kd.R_append k52 (w0 := V0) V0.heap.size rfl (.tmp 76) (.tmp 86) 40 52 (.agg #[(.int .i64 0), (.int .i64 0), (.int .i64 0), (.int .i64 0), (.int .i64 0), (.bool false)]) 48 rfl Try.underlying40 info52 rfl (by decide) (by omega) _ o2 (⟨3, (x.f0.size : Int), 0, x.f1, 0, !x.f2⟩ : S52) [.int .i64 3, .int .i64 (x.f0.size : Int), .int .i64 0, .int .i64 x.f1, .int .i64 0, .bool (!x.f2)] (fun q => q ≠ wo.heap.size ∧ q ≠ wo.heap.size + 1) (fun _ => False) rfl rfl ?aP (fun _ hk => hk.elim) ?aF ?aO ?aB ?aS ?aL ?_); (case aP => exact k52_mkM _ _ _ _); (case aB => exact HB2'.out); (case aF => exact fun k hk => by have := HK.out.1; have := HZ1.out; omega); (case aO => exact HO2.out); (case aS => exact HB2'.out.size); (case aL => have := HLN.out; omega); intro v1 w1 hoa hba hga hat; have HBn := Aside0.mk hba; have HKn := Aside0.mk (Kept.of_grown (S := (fun q => q ≠ wo.heap.size ∧ q ≠ wo.heap.size + 1)) hga HK.out (fun k e_ => .inl (HO2.out.1 k e_))); have HOn := Aside0.mk hoa; clear hba hga hat hoa)))
                obtain ⟨W4, hW4⟩ : ∃ W4, W4 = w1 := ⟨_, rfl⟩
                subst hW4
                have HC4 := Aside0.mk ((HKn.out.2 wo.heap.size (by have := HZ1.out; omega) (fun h => h.1 rfl)).trans HC1.out)
                have HP4 := Aside0.mk (blk_below HPr.out HBn.out)
                have HBw4 := Aside0.mk (below_step HBw.out HBn.out)
                have HSZ : Aside0 (sd.size ≤ 90000000) := ⟨by
                  have h1 := wordC_size rels (d.take k) s
                  have h2 := HSB.out k
                  rw [HSD.out]; omega⟩
                obtain ⟨ss, hss⟩ : ∃ ss, ss = sideS rels x.f1 (!x.f2) := ⟨_, rfl⟩
                obtain ⟨iv, hiv⟩ : ∃ iv, iv = invS x.f0 := ⟨_, rfl⟩
                have z1 : ss.size ≤ 200 := by rw [hss, side_size]; exact hrz
                have z2 : iv.size = x.f0.size := by rw [hiv, invS_size]
                have z3 := HSZ.out
                have HWD : Aside0 (x.f0 ++ ss ++ iv ++ sd = wordC rels s (d.take (k + 1))) := ⟨by rw [HTK.out, wordC_snoc, ← HSD.out, hss, hiv]⟩
                have L56 : Aside0 (∀ W', Below W4.heap.size W4 W' → Calls Try.prog 56 #[.agg #[.int .i64 g, .slice A rels.length c], .int .i64 x.f1, .bool (!x.f2)] W' fun e w' => e = .returned (.string ss) ∧ Below W'.heap.size W' w') := ⟨fun W' hb => by rw [hss]; exact side_calls g A c rels.length rels rfl x.f1 (!x.f2) W' q1 q2 (by omega) (Kd.C_below (Kd.C_below HR.out HBw4.out) hb) HRC.out⟩
                have L57 : Aside0 (∀ W', Calls Try.prog 57 #[.string x.f0] W' fun e w' => e = .returned (.string iv) ∧ Below W'.heap.size W' w') := ⟨fun W' => by rw [hiv]; exact inverse_calls x.f0 (by omega) W'⟩
                clear hss hiv
                have za : (9223372036854775807 < x.f0.size + ss.size) = False := eq_false (by omega)
                have zb : (9223372036854775807 < x.f0.size + ss.size + iv.size) = False := eq_false (by omega)
                have zc : (9223372036854775807 < x.f0.size + ss.size + iv.size + sd.size) = False := eq_false (by omega)
                clear z1 z2 z3
                have HS : Aside0 (∀ W', Below W4.heap.size W4 W' → W'.cell? ⟨wo.heap.size, 0, none⟩ = some (.string x.f0) ∧ W'.cell? ⟨wo.heap.size, 1, none⟩ = some (.int .i64 x.f1) ∧ W'.cell? ⟨wo.heap.size, 2, none⟩ = some (.bool x.f2) ∧ W'.cell? ⟨w.heap.size, 0, none⟩ = some (.int .i64 g) ∧ W'.cell? ⟨w.heap.size, 1, none⟩ = some (.slice A rels.length c) ∧ Below W4.heap.size W4 W') :=
                  ⟨fun W' hb => ⟨(blk_cell (blk_below HC4.out hb) 0).trans rfl, (blk_cell (blk_below HC4.out hb) 1).trans rfl, (blk_cell (blk_below HC4.out hb) 2).trans rfl, (blk_cell (blk_below HP4.out hb) 0).trans rfl, (blk_cell (blk_below HP4.out hb) 1).trans rfl, hb⟩⟩
                have hb00 := Below.refl W4.heap.size W4
                clear hc0 hc1' hc2'
                go_region_held3 (fun W' => W'.cell? ⟨wo.heap.size, 0, none⟩ = some (.string x.f0) ∧ W'.cell? ⟨wo.heap.size, 1, none⟩ = some (.int .i64 x.f1) ∧ W'.cell? ⟨wo.heap.size, 2, none⟩ = some (.bool x.f2) ∧ W'.cell? ⟨w.heap.size, 0, none⟩ = some (.int .i64 g) ∧ W'.cell? ⟨w.heap.size, 1, none⟩ = some (.slice A rels.length c) ∧ Below W4.heap.size W4 W') (first | exact HS.out _ (by assumption) | exact HS.out _ (below_drew (by assumption)) | exact HS.out _ (pw_below_drewN (by assumption) _)) (first | (go_at_call 56; refine (L56.out _ (by first | assumption | exact below_drew (by assumption))).mono ?_; rintro e w' ⟨rfl, hb⟩; clear L56; have hbn : Below W4.heap.size W4 w' := below_step (by first | assumption | exact below_drew (by assumption)) hb) | (go_at_call 57; refine (L57.out _).mono ?_; rintro e w' ⟨rfl, hb⟩; clear L57; have hbn : Below W4.heap.size W4 w' := below_step (by first | assumption | exact below_drew (by assumption)) hb))
                all_goals
                  have hbe := (‹_ ∧ _ ∧ _ ∧ _ ∧ _ ∧ Below W4.heap.size W4 _›).2.2.2.2.2
                  go_wp2
                  go_roundw
                  case rel => exact ⟨k + 1, _, _, by omega, by go_num, rfl, HWD, HO3E, ⟨Kd.R_mono (Kd.R_below HOn.out hbe) (fun _ _ => trivial)⟩, ⟨below_step HBn.out hbe⟩⟩
                  case measure => simp [intOf]; omega
          · have hke : k = d.length := by omega
            have HSE : Aside0 (sd = wordC rels s d) := ⟨by rw [HSD.out, hke, List.take_length]⟩
            have HOE : Aside0 (out = d.flatMap insCell) := ⟨by rw [HOU.out, hke, List.take_length]⟩
            have HSZ : Aside0 (sd.size ≤ 90000000) := ⟨by
              have h1 := wordC_size rels (d.take k) s
              have h2 := HSB.out k
              rw [HSD.out]; omega⟩
            have HOL : Aside0 (out.length ≤ 42000000) := ⟨by
              have h1 := flat_len rels (d.take k)
              have h2 := HSB.out k
              rw [List.length_take] at h1
              rw [HOU.out]; omega⟩
            clear hke HSD HOU
            have hsd := HSZ.out
            have kb := fun W => print_bytes (P := Try.prog) 9 67 5 Try.underlying9 Try.underlying67 Try.underlying5 sd W
            go_wp2
            clear kb
            obtain ⟨wb, rfl⟩ : ∃ wb : World, wb = wr := ⟨_, rfl⟩
            obtain ⟨V2, hV2⟩ : ∃ V2, V2 = Lib.bytesWorld wb 5 sd := ⟨_, rfl⟩
            have HB2v : Aside0 (Below wb.heap.size wb V2) := ⟨by rw [hV2]; exact bytes_below (Below.refl _ _) (Nat.le_refl _) _ _⟩
            have hz2 : V2.heap.size = wb.heap.size + 1 := by rw [hV2, Lib.bytesWorld_size]
            have HZ2 := Aside0.mk hz2
            have HBY : Aside0 (∀ W_, Kept V2 W_ (fun q => q ≠ wb.heap.size) → Kd.C (Kd.int .u8) W_ (some ⟨wb.heap.size, 0, none⟩) sd.size (bytesOf sd)) := ⟨by rw [hV2]; exact bytes_kept wb 5 sd (by omega) (fun h => h rfl)⟩
            rw [← hV2]
            clear hV2 hz2
            have HO1 : Aside0 (Kd.R k52 52 V2 V0.heap.size (fun q => q ≠ wb.heap.size) u12 out) := ⟨Kd.R_below (Kd.R_mono (Kd.R_bound HO.out) (fun q hq => by have := hq.2.2.1; omega)) HB2v.out⟩
            have HB02 : Aside0 (Below V0.heap.size V0 V2) := ⟨below_step HB.out HB2v.out⟩
            have HQb := fun k => bt_range sd k
            go_loopw [12, 17, 108] (fun v vs i wi => ∃ (j : Nat) (o2 : List S52) (st : List Int), j ≤ sd.size ∧ i = .int .i64 j ∧ Aside0 (((bytesOf sd).take j).foldl delStep ([], out) = (st, o2)) ∧ Aside0 (st.length ≤ j ∧ o2.length ≤ out.length + j) ∧ Aside0 (Kd.R k52 52 wi V0.heap.size (fun q => q ≠ wb.heap.size) v o2) ∧ Aside0 (Kd.R (Kd.int .u8) 5 wi V0.heap.size (fun q => q ≠ wb.heap.size) vs st) ∧ Aside0 (Below V0.heap.size V0 wi) ∧ Aside0 (Kept V2 wi (fun q => q ≠ wb.heap.size))) (fun _ _ i _ => sd.size - (intOf i).toNat)
            case atStart => exact ⟨0, out, [], Nat.zero_le _, rfl, ⟨by simp⟩, ⟨by simp⟩, HO1, ⟨Kd.R_nil _ _ _ _ _⟩, HB02, ⟨Kept.refl _ _⟩⟩
            case round =>
              clear HO1 HB02
              obtain ⟨j, o2, st, hj, rfl, HDL, HL1, HO2, HST, HB3', HK⟩ := hrel
              by_cases hjl : j < sd.size
              · obtain ⟨ay, e3, hcell⟩ := Kd.at_int (HBY.out wr HK.out) (j : Int) (by omega) (by omega)
                cases e3
                rw [rd_bytesOf, add_plain, Int.toNat_natCast] at hcell
                have hq := HQb (j : Int)
                obtain ⟨As, co, es⟩ := Kd.R_slice HST.out
                subst es
                have HNX : Aside0 (((bytesOf sd).take (j + 1)).foldl delStep ([], out) = delStep (st, o2) (bt sd (j : Int))) := ⟨by rw [take_bytes sd j hjl, List.foldl_append, HDL.out]; rfl⟩
                have hyl : st.length < 1000000000 := by have := HL1.out.1; omega
                by_cases hp : 0 < st.length
                · obtain ⟨ad2, e2, hcell2⟩ := Kd.at_int (Kd.R_reads' HST.out).2.2 ((st.length : Int) - 1) (by omega) (by omega)
                  cases e2
                  rw [show ((st.length : Int) - 1).toNat = st.length - 1 from by omega] at hcell2
                  by_cases hcan : canc (rd st ((st.length : Int) - 1)) (bt sd (j : Int)) = true
                  · have HR := Aside0.mk (HNX.out.trans (del_cut hp hcan))
                    have HT := Aside0.mk (Kd.R_take (m := st.length - 1) HST.out (by omega))
                    obtain ⟨i0, hi0, _, hsz5, _⟩ := info_parts info5
                    have hcut := cut_to (P := Try.prog) 67 5 .i64 Try.underlying67 hi0 (some ad2) st.length co ((st.length : Int) - 1) (by omega) (by omega) (Kd.R_reads' HST.out).2.1
                    rw [show ((st.length : Int) - 1).toNat = st.length - 1 from by omega] at hcut
                    clear hsz5 hi0
                    go_wp2_with (first | (go_at_call 58; refine (inverted_calls _ _ _).mono ?_; rintro e w' ⟨rfl, rfl⟩) | ((with_reducible refine gate_builtin (b := .append) (xs := #[.tmp 129, .tmp 133]) rfl ?_); at_builtin; go_must ((refine Kd.R_append k52 (w0 := V0) V0.heap.size rfl (.tmp 129) (.tmp 133) 40 52 (.agg #[(.int .i64 0), (.int .i64 0), (.int .i64 0), (.int .i64 0), (.int .i64 0), (.bool false)]) 48 rfl Try.underlying40 info52 rfl (by decide) (by omega) _ o2 (⟨2, (st.length : Int) - 1, 0, 0, 0, false⟩ : S52) [.int .i64 2, .int .i64 ((st.length : Int) - 1), .int .i64 0, .int .i64 0, .int .i64 0, .bool false] (fun q => q ≠ wb.heap.size) (fun _ => False) rfl rfl ?aP (fun _ hk => hk.elim) ?aF ?aO ?aB ?aS ?aL ?_); (case aP => exact k52_mkM _ _ _ _); (case aB => exact HB3'.out); (case aF => exact fun k hk => by have := HK.out.1; have := HZ2.out; omega); (case aO => exact HO2.out); (case aS => exact HB3'.out.size); (case aL => have := HL1.out; have := HOL.out; have := HSZ.out; omega); intro v1 w1 hoa hba hga hat; have HBn := Aside0.mk hba; have HKn := Aside0.mk (Kept.of_grown (S := (fun q => q ≠ wb.heap.size)) hga HK.out (fun k e_ => .inl (HO2.out.1 k e_))); have HOn := Aside0.mk hoa; have HSn := Aside0.mk (Kd.R_over HT.out HO2.out not52 hga); clear hba hga hat hoa)))
                    go_roundw
                    case rel => exact ⟨j + 1, _, _, by omega, by go_num, HR, ⟨by have := HL1.out; simp; omega⟩, HOn, HSn, HBn, HKn⟩
                    case measure => simp [intOf]; omega
                  · have hcan2 : canc (rd st ((st.length : Int) - 1)) (bt sd (j : Int)) = false := by simpa using hcan
                    have HR := Aside0.mk (HNX.out.trans (del_add (fun _ => hcan2)))
                    clear hcan
                    go_wp2_with (first | (go_at_call 58; refine (inverted_calls _ _ _).mono ?_; rintro e w' ⟨rfl, rfl⟩) | ((with_reducible refine gate_builtin (b := .append) (xs := #[.tmp 135, .tmp 137]) rfl ?_); at_builtin; go_must ((refine Kd.R_append (Kd.int .u8) (w0 := V0) V0.heap.size rfl (.tmp 135) (.tmp 137) 67 5 (.int .u8 0) 1 rfl Try.underlying67 info5 rfl (by decide) (by omega) _ (st : List Int) (bt sd (j : Int)) [.int .u8 (bt sd (j : Int))] (fun q => q ≠ wb.heap.size) (fun _ => False) rfl rfl ?aP (fun _ hk => hk.elim) ?aF ?aO ?aB ?aS ?aL ?_); (case aP => exact rfl); (case aB => exact HB3'.out); (case aF => exact fun k hk => by have := HK.out.1; have := HZ2.out; omega); (case aO => exact HST.out); (case aS => exact HB3'.out.size); (case aL => have := HL1.out; have := HSZ.out; (try simp only [List.length_nil]); omega); intro v1 w1 hoa hba hga hat; have HBn := Aside0.mk hba; have HKn := Aside0.mk (Kept.of_grown (S := (fun q => q ≠ wb.heap.size)) hga HK.out (fun k e_ => .inl (HST.out.1 k e_))); have HSn := Aside0.mk hoa; have HOn := Aside0.mk (Kd.R_over HO2.out HST.out not5 hga); clear hba hga hat hoa)))
                    go_roundw
                    case rel => exact ⟨j + 1, _, _, by omega, by go_num, HR, ⟨by have := HL1.out; simp; omega⟩, HOn, HSn, HBn, HKn⟩
                    case measure => simp [intOf]; omega
                · have HR := Aside0.mk (HNX.out.trans (del_add (fun h => absurd h hp)))
                  have hnil : st = [] := List.eq_nil_of_length_eq_zero (by omega)
                  subst hnil
                  simp only [List.length_nil] at HST
                  clear hp
                  go_wp2_with (((with_reducible refine gate_builtin (b := .append) (xs := #[.tmp 135, .tmp 137]) rfl ?_); at_builtin; go_must ((refine Kd.R_append (Kd.int .u8) (w0 := V0) V0.heap.size rfl (.tmp 135) (.tmp 137) 67 5 (.int .u8 0) 1 rfl Try.underlying67 info5 rfl (by decide) (by omega) _ ([] : List Int) (bt sd (j : Int)) [.int .u8 (bt sd (j : Int))] (fun q => q ≠ wb.heap.size) (fun _ => False) rfl rfl ?aP (fun _ hk => hk.elim) ?aF ?aO ?aB ?aS ?aL ?_); (case aP => exact rfl); (case aB => exact HB3'.out); (case aF => exact fun k hk => by have := HK.out.1; have := HZ2.out; omega); (case aO => exact HST.out); (case aS => exact HB3'.out.size); (case aL => have := HL1.out; have := HSZ.out; (try simp only [List.length_nil]); omega); intro v1 w1 hoa hba hga hat; have HBn := Aside0.mk hba; have HKn := Aside0.mk (Kept.of_grown (S := (fun q => q ≠ wb.heap.size)) hga HK.out (fun k e_ => .inl (HST.out.1 k e_))); have HSn := Aside0.mk hoa; have HOn := Aside0.mk (Kd.R_over HO2.out HST.out not5 hga); clear hba hga hat hoa)))
                  go_roundw
                  case rel => exact ⟨j + 1, _, _, by omega, by go_num, HR, ⟨by have := HL1.out; simp at this ⊢; omega⟩, HOn, HSn, HBn, HKn⟩
                  case measure => simp [intOf]; omega
              · have hje : j = sd.size := by omega
                have HF : Aside0 (toMovesL rels d s = o2) := ⟨by
                  unfold toMovesL
                  rw [← HSE.out, ← HOE.out]
                  have := HDL.out
                  rw [hje, List.take_of_length_le (by rw [bytesOf_length]; exact Nat.le_refl _)] at this
                  rw [this]⟩
                clear hje
                go_wp2
                go_ret2
                rw [HF.out]
                exact ⟨_, rfl, Kd.R_lower (Kd.R_mono HO2.out (fun _ _ => trivial)) HBw.out.size, below_step HBw.out HB3'.out⟩
      · have hh := HH.out
        rw [if_neg hbig] at hh
        obtain ⟨rfl, rfl⟩ := Prod.mk.inj hh
        clear hh HH
        have hnb : ((s.size + sumC rels (d.take k) : Nat) : Int) > 20000 := by rw [HSE.out]; omega
        go_wp2
        go_ret2
        exact ⟨_, rfl, Kd.R_nil _ _ _ _ _, HBw.out⟩
def ToMovesS (g : Int) (rels : List ByteArray) (d : List S59) (s : ByteArray) : List S52 × Int :=
  if ProvesS g rels d s = 0 then if s.size + sumC rels d ≤ 20000 then (toMovesL rels d s, 0) else ([], 2) else ([], ProvesS g rels d s)
end H
def disk_ToMoves.f (g : Int) (rels : List ByteArray) (d : List S59) (s : ByteArray) : Option (List S52 × Int) := some (ToMovesS g rels d s)
theorem disk_ToMoves.calls (a0_0 : Int) (A0_1 : Option Addr) (c0_1 : Nat) (l0_1 : List ByteArray) (A1 : Option Addr) (c1 : Nat) (l1 : List S59) (a2 : ByteArray) (r1 : List S52) (r2 : Int) (w : World) (hr0_1 : Kd.C Kd.string w A0_1 l0_1.length l0_1) (hc0_1 : l0_1.length ≤ c0_1) (hr1 : Kd.C k59 w A1 l1.length l1) (hc1 : l1.length ≤ c1) (h : disk_ToMoves.f a0_0 l0_1 l1 a2 = some (r1, r2)) :
    Calls Try.prog 34 #[.agg #[.int .i64 a0_0, .slice A0_1 l0_1.length c0_1], .slice A1 l1.length c1, .string a2] w fun e w' => ∃ v0_ : Value, e = .returned (.tuple #[v0_, .int .i64 r2]) ∧ Kd.R k52 52 w' w.heap.size (fun _ => True) v0_ r1 ∧ Below w.heap.size w w' := by
  unfold disk_ToMoves.f ToMovesS at h
  have h := Option.some.inj h
  split at h
  · rename_i hp
    exact toMoves_runs a0_0 A0_1 c0_1 l0_1 A1 c1 l1 a2 hp w hr0_1 hc0_1 hr1 hc1 r1 r2 h
  · rename_i hp
    obtain ⟨rfl, rfl⟩ := Prod.mk.inj h
    exact toMoves_refused a0_0 A0_1 c0_1 l0_1 A1 c1 l1 a2 _ rfl hp w hr0_1 hc0_1 hr1 hc1
namespace H
end H
end Go.Proofs.Ytmmichdlgjcmoaa.PAll
