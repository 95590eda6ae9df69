import Derived.Test.YtmmichdlgjcmoaaPAllx0
import Derived.Test.YtmmichdlgjcmoaaPAllx6
import Derived.Test.YtmmichdlgjcmoaaPAllx7
import Derived.Test.YtmmichdlgjcmoaaExtL
namespace Go.Proofs.Ytmmichdlgjcmoaa.PAll
open Go.RowKit Go.Proofs.YtmmichdlgjcmoaaW.PrintWords Go.Proofs.YtmmichdlgjcmoaaW.PrintLast Go.Proofs.YtmmichdlgjcmoaaW.PrintMore H Go.Proofs.YtmmichdlgjcmoaaReg
set_option linter.unusedVariables false
set_option linter.unusedSimpArgs false
namespace H
def movesS (g : Int) (rels : List ByteArray) (s : ByteArray) (ms : List S52) : Except Int (ByteArray × List S59) :=
  if examineS g rels [s] [] = 0 then
    if ms.length ≤ 100000 then
      match walkS g rels (s, []) ms with
      | none => .error 43
      | some x => .ok x
    else .error 2
  else .error (examineS g rels [s] [])
theorem movesS_err {g : Int} {rels : List ByteArray} {s : ByteArray} {ms : List S52} {e : Int} (h : movesS g rels s ms = .error e) : e ≠ 0 := by
  unfold movesS at h
  split at h
  · split at h
    · split at h
      · cases h; decide
      · cases h
    · cases h; decide
  · cases h; assumption
theorem walked_bad (g : Int) (A : Option Addr) (c : Nat) (rels : List ByteArray) (s : ByteArray) (A2 : Option Addr) (c2 : Nat) (ms : List S52) (x : Int) (w : World) (hr : Kd.C Kd.string w A rels.length rels) (hc : rels.length ≤ c) (h2 : Kd.C k52 w A2 ms.length ms) (hc2 : ms.length ≤ c2) (h : movesS g rels s ms = .error x) :
    Calls Try.prog 52 #[.agg #[.int .i64 g, .slice A rels.length c], .string s, .slice A2 ms.length c2] w fun e w' => e = .returned (.tuple #[.pointer none, .int .i64 x]) ∧ Below w.heap.size w w' := by
  unfold movesS at h
  split at h
  · rename_i he
    split at h
    · rename_i hm
      refine (walked_runs g A c rels s A2 c2 ms w hr hc h2 hc2 he hm).mono ?_
      intro e w' hP
      unfold walkedP at hP
      cases hw : walkS g rels (s, []) ms with
      | none => rw [hw] at h hP; cases h; exact hP
      | some x => rw [hw] at h; cases h
    · rename_i hm
      cases h
      exact walked_long g A c rels s A2 c2 ms w hr hc he hm
  · rename_i he
    cases h
    exact walked_refused g A _ c rels s A2 c2 ms w rfl hr hc he
theorem walked_good (g : Int) (A : Option Addr) (c : Nat) (rels : List ByteArray) (s : ByteArray) (A2 : Option Addr) (c2 : Nat) (ms : List S52) (x : ByteArray × List S59) (w : World) (hr : Kd.C Kd.string w A rels.length rels) (hc : rels.length ≤ c) (h2 : Kd.C k52 w A2 ms.length ms) (hc2 : ms.length ≤ c2) (h : movesS g rels s ms = .ok x) :
    Calls Try.prog 52 #[.agg #[.int .i64 g, .slice A rels.length c], .string s, .slice A2 ms.length c2] w fun e w' => ∃ gk cv, e = .returned (.tuple #[.pointer (some ⟨gk, 0, none⟩), .int .i64 0]) ∧ Below w.heap.size w w' ∧ w'.heap[gk]? = some (walkO g A rels.length c x.1 cv) ∧ Kd.R k59 59 w' w.heap.size (fun q => q ≠ gk) cv x.2 := by
  unfold movesS at h
  split at h
  · rename_i he
    split at h
    · rename_i hm
      refine (walked_runs g A c rels s A2 c2 ms w hr hc h2 hc2 he hm).mono ?_
      intro e w' hP
      unfold walkedP at hP
      cases hw : walkS g rels (s, []) ms with
      | none => rw [hw] at h; cases h
      | some x => rw [hw] at h hP; cases h; exact hP
    · cases h
  · cases h
def ApplyS (g : Int) (rels : List ByteArray) (s : ByteArray) (ms : List S52) : ByteArray × Int :=
  match movesS g rels s ms with
  | .error e => (⟨#[]⟩, e)
  | .ok x => (x.1, 0)
def FromMovesS (g : Int) (rels : List ByteArray) (s : ByteArray) (ms : List S52) : List S59 × Int :=
  match movesS g rels s ms with
  | .error e => ([], e)
  | .ok x => if isDiskS g rels.length x.2 = true then (x.2, 0) else ([], 2)
theorem isDisk_to (g : Int) (A : Option Addr) (c : Nat) (rels : List ByteArray) (A1 : Option Addr) (n1 c1 : Nat) (d : List S59) (hn : n1 = d.length) (b : Bool) (hb : isDiskS g rels.length d = b) (hg : 1 ≤ g ∧ g ≤ 8) (w : World) (hr : Kd.C Kd.string w A rels.length rels) (hc : rels.length ≤ c) (h1 : Kd.C k59 w A1 n1 d) (hc1 : n1 ≤ c1) :
    Calls Try.prog 45 #[.agg #[.int .i64 g, .slice A rels.length c], .slice A1 n1 c1] w fun e w' => e = .returned (.bool b) ∧ Below w.heap.size w w' := by
  subst hn hb
  obtain ⟨k, hk⟩ := (disk_isDisk_ev g rels hg d).rounds
  exact disk_isDisk.calls k g A c rels A1 c1 d _ w hr hc h1 hc1 hk
end H
def disk_Apply.f (g : Int) (rels : List ByteArray) (s : ByteArray) (ms : List S52) : Option (ByteArray × Int) := some (ApplyS g rels s ms)
def disk_FromMoves.f (g : Int) (rels : List ByteArray) (s : ByteArray) (ms : List S52) : Option (List S59 × Int) := some (FromMovesS g rels s ms)
theorem disk_Apply.calls (a0_0 : Int) (A0_1 : Option Addr) (c0_1 : Nat) (l0_1 : List ByteArray) (a1 : ByteArray) (A2 : Option Addr) (c2 : Nat) (l2 : List S52) (r1 : ByteArray) (r2 : Int) (w : World) (hr0_1 : Kd.C Kd.string w A0_1 l0_1.length l0_1) (hc0_1 : l0_1.length ≤ c0_1) (hr2 : Kd.C k52 w A2 l2.length l2) (hc2 : l2.length ≤ c2) (h : disk_Apply.f a0_0 l0_1 a1 l2 = some (r1, r2)) :
    Calls Try.prog 29 #[.agg #[.int .i64 a0_0, .slice A0_1 l0_1.length c0_1], .string a1, .slice A2 l2.length c2] w fun e w' => e = .returned (.tuple #[.string r1, .int .i64 r2]) ∧ Below w.heap.size w w' := by
  have HR := Aside0.mk hr0_1
  have HC := Aside0.mk hc0_1
  have HD := Aside0.mk hr2
  have HDC := Aside0.mk hc2
  unfold disk_Apply.f ApplyS at h
  clear hr0_1 hc0_1 hr2 hc2
  obtain ⟨W1, hW1⟩ : ∃ W1, W1 = w.alloc (.cells #[.int .i64 a0_0, .slice A0_1 l0_1.length c0_1] 24) := ⟨_, rfl⟩
  have HB1 : Aside0 (Below w.heap.size w W1) := ⟨by rw [hW1]; exact below_alloc (Below.refl _ _) _⟩
  cases hm : movesS a0_0 l0_1 a1 l2 with
  | error x =>
    rw [hm] at h
    obtain ⟨rfl, rfl⟩ := Prod.mk.inj (Option.some.inj h)
    have hx := movesS_err hm
    have hx' : (x != 0) = true := by simp [hx]
    clear h
    go_enter Try.func29, Try.ntmps29
    go_wp2_with (go_at_call 52; go_must (rw [← hW1]; refine (walked_bad a0_0 A0_1 c0_1 l0_1 a1 A2 c2 l2 x _ (Kd.C_below HR.out HB1.out) HC.out (Kd.C_below HD.out HB1.out) HDC.out hm).mono ?_; rintro e w' ⟨rfl, hb⟩; have HB2 := Aside0.mk (below_step HB1.out hb); clear hb))
    go_ret2
    exact ⟨rfl, HB2.out⟩
  | ok x =>
    rw [hm] at h
    obtain ⟨rfl, rfl⟩ := Prod.mk.inj (Option.some.inj h)
    clear h
    go_enter Try.func29, Try.ntmps29
    go_wp2_with (go_at_call 52; go_must (rw [← hW1]; refine (walked_good a0_0 A0_1 c0_1 l0_1 a1 A2 c2 l2 x _ (Kd.C_below HR.out HB1.out) HC.out (Kd.C_below HD.out HB1.out) HDC.out hm).mono ?_; rintro e w' ⟨gk, cv, rfl, hb, hk, hR⟩; have HB2 := Aside0.mk (below_step HB1.out hb); have hx1 : w'.cell? ⟨gk, 2, none⟩ = some (.string x.1) := (blk_cell hk 2).trans rfl; clear hb hR hk))
    go_ret2
    exact ⟨rfl, HB2.out⟩
theorem disk_FromMoves.calls (a0_0 : Int) (A0_1 : Option Addr) (c0_1 : Nat) (l0_1 : List ByteArray) (a1 : ByteArray) (A2 : Option Addr) (c2 : Nat) (l2 : List S52) (r1 : List S59) (r2 : Int) (w : World) (hr0_1 : Kd.C Kd.string w A0_1 l0_1.length l0_1) (hc0_1 : l0_1.length ≤ c0_1) (hr2 : Kd.C k52 w A2 l2.length l2) (hc2 : l2.length ≤ c2) (h : disk_FromMoves.f a0_0 l0_1 a1 l2 = some (r1, r2)) :
    Calls Try.prog 32 #[.agg #[.int .i64 a0_0, .slice A0_1 l0_1.length c0_1], .string a1, .slice A2 l2.length c2] w fun e w' => ∃ v0_ : Value, e = .returned (.tuple #[v0_, .int .i64 r2]) ∧ Kd.R k59 59 w' w.heap.size (fun _ => True) v0_ r1 ∧ Below w.heap.size w w' := by
  have HR := Aside0.mk hr0_1
  have HC := Aside0.mk hc0_1
  have HD := Aside0.mk hr2
  have HDC := Aside0.mk hc2
  unfold disk_FromMoves.f FromMovesS at h
  clear hr0_1 hc0_1 hr2 hc2
  obtain ⟨W1, hW1⟩ : ∃ W1, W1 = w.alloc (.cells #[.int .i64 a0_0, .slice A0_1 l0_1.length c0_1] 24) := ⟨_, rfl⟩
  have HB1 : Aside0 (Below w.heap.size w W1) := ⟨by rw [hW1]; exact below_alloc (Below.refl _ _) _⟩
  cases hm : movesS a0_0 l0_1 a1 l2 with
  | error x =>
    rw [hm] at h
    obtain ⟨rfl, rfl⟩ := Prod.mk.inj (Option.some.inj h)
    have hx := movesS_err hm
    have hx' : (x != 0) = true := by simp [hx]
    clear h
    go_enter Try.func32, Try.ntmps32
    go_wp2_with (go_at_call 52; go_must (rw [← hW1]; refine (walked_bad a0_0 A0_1 c0_1 l0_1 a1 A2 c2 l2 x _ (Kd.C_below HR.out HB1.out) HC.out (Kd.C_below HD.out HB1.out) HDC.out hm).mono ?_; rintro e w' ⟨rfl, hb⟩; have HB2 := Aside0.mk (below_step HB1.out hb); clear hb))
    go_ret2
    exact ⟨_, rfl, Kd.R_nil _ _ _ _ _, HB2.out⟩
  | ok x =>
    rw [hm] at h
    have HX : Aside0 (some (if isDiskS a0_0 l0_1.length x.2 = true then (x.2, 0) else ([], 2)) = some (r1, r2)) := ⟨h⟩
    clear h
    have HZ1 : Aside0 (w.heap.size + 1 = W1.heap.size) := ⟨by rw [hW1, World.size_alloc]⟩
    have HP1 : Aside0 (W1.heap[w.heap.size]? = some (.cells #[.int .i64 a0_0, .slice A0_1 l0_1.length c0_1] 24 (0, 0))) := ⟨by rw [hW1]; exact Go.heap_alloc_new _ _⟩
    have hg : 1 ≤ a0_0 ∧ a0_0 ≤ 8 := by
      unfold movesS at hm
      split at hm
      · rename_i he; exact isPresS_g (examine_zero he).1
      · cases hm
    go_enter Try.func32, Try.ntmps32
    go_wp2_with (go_at_call 52; go_must (rw [← hW1]; refine (walked_good a0_0 A0_1 c0_1 l0_1 a1 A2 c2 l2 x _ (Kd.C_below HR.out HB1.out) HC.out (Kd.C_below HD.out HB1.out) HDC.out hm).mono ?_; rintro e W2 ⟨gk, cv, rfl, hb, hk, hR⟩; obtain ⟨Av, cc, rfl⟩ := Kd.R_slice hR; have HB2 := Aside0.mk (below_step HB1.out hb); have hx1 : W2.cell? ⟨gk, 3, none⟩ = some (.slice Av x.2.length cc) := (blk_cell hk 3).trans rfl; have hp := blk_below HP1.out hb; have hp0 : W2.cell? ⟨w.heap.size, 0, none⟩ = some (.int .i64 a0_0) := (blk_cell hp 0).trans rfl; have hp1 : W2.cell? ⟨w.heap.size, 1, none⟩ = some (.slice A0_1 l0_1.length c0_1) := (blk_cell hp 1).trans rfl; have HPW := Aside0.mk hp; have HK := Aside0.mk hk; have HRR := Aside0.mk hR; clear hb hR hk hp))
    have HS : Aside0 (∀ W', Below W2.heap.size W2 W' → W'.cell? ⟨w.heap.size, 0, none⟩ = some (.int .i64 a0_0) ∧ W'.cell? ⟨w.heap.size, 1, none⟩ = some (.slice A0_1 l0_1.length c0_1) ∧ W'.cell? ⟨gk, 3, none⟩ = some (.slice Av x.2.length cc) ∧ Below W2.heap.size W2 W') := ⟨fun W' hb => ⟨(blk_cell (blk_below HPW.out hb) 0).trans rfl, (blk_cell (blk_below HPW.out hb) 1).trans rfl, (blk_cell (blk_below HK.out hb) 3).trans rfl, hb⟩⟩
    have hb00 := Below.refl W2.heap.size W2
    have HCR : Aside0 (∀ W', Below W2.heap.size W2 W' → Kd.C Kd.string W' A0_1 l0_1.length l0_1) := ⟨fun W' hb => Kd.C_below (Kd.C_below HR.out HB2.out) hb⟩
    have HCX : Aside0 (∀ W', Below W2.heap.size W2 W' → Kd.C k59 W' Av x.2.length x.2) := ⟨fun W' hb => Kd.C_below (Kd.R_reads' HRR.out).2.2 hb⟩
    have HLC : Aside0 (x.2.length ≤ cc) := ⟨(Kd.R_reads' HRR.out).2.1⟩
    cases hd : isDiskS a0_0 l0_1.length x.2 with
    | false =>
      rw [hd] at HX
      go_region_held3 (fun W' => W'.cell? ⟨w.heap.size, 0, none⟩ = some (.int .i64 a0_0) ∧ W'.cell? ⟨w.heap.size, 1, none⟩ = some (.slice A0_1 l0_1.length c0_1) ∧ W'.cell? ⟨gk, 3, none⟩ = some (.slice Av x.2.length cc) ∧ Below W2.heap.size W2 W') (first | exact HS.out _ (by assumption) | exact HS.out _ (below_drew (by assumption)) | exact HS.out _ (pw_below_drewN (by assumption) _) | exact HS.out _ (below_alloc (by assumption) _)) (first | (go_at_call 45; (refine (isDisk_to a0_0 A0_1 c0_1 l0_1 Av _ cc x.2 rfl false hd hg _ ?s1 HC.out ?s2 HLC.out).mono ?_); (case s1 => exact HCR.out _ (by first | assumption | exact below_drew (by assumption))); (case s2 => exact HCX.out _ (by first | assumption | exact below_drew (by assumption))); rintro e w' ⟨rfl, hb⟩; have hbn : Below W2.heap.size W2 w' := below_step (by first | assumption | exact below_drew (by assumption)) hb))
      go_wp2
      have hbz := hbn
      go_ret2
      obtain ⟨rfl, rfl⟩ := Prod.mk.inj (Option.some.inj HX.out)
      exact ⟨_, rfl, Kd.R_nil _ _ _ _ _, below_step HB2.out hbz⟩
    | true =>
      rw [hd] at HX
      go_region_held3 (fun W' => W'.cell? ⟨w.heap.size, 0, none⟩ = some (.int .i64 a0_0) ∧ W'.cell? ⟨w.heap.size, 1, none⟩ = some (.slice A0_1 l0_1.length c0_1) ∧ W'.cell? ⟨gk, 3, none⟩ = some (.slice Av x.2.length cc) ∧ Below W2.heap.size W2 W') (first | exact HS.out _ (by assumption) | exact HS.out _ (below_drew (by assumption)) | exact HS.out _ (pw_below_drewN (by assumption) _) | exact HS.out _ (below_alloc (by assumption) _)) (first | (go_at_call 45; (refine (isDisk_to a0_0 A0_1 c0_1 l0_1 Av _ cc x.2 rfl true hd hg _ ?s1 HC.out ?s2 HLC.out).mono ?_); (case s1 => exact HCR.out _ (by first | assumption | exact below_drew (by assumption))); (case s2 => exact HCX.out _ (by first | assumption | exact below_drew (by assumption))); rintro e w' ⟨rfl, hb⟩; have hbn : Below W2.heap.size W2 w' := below_step (by first | assumption | exact below_drew (by assumption)) hb))
      have hS1 := HS.out _ hbn
      go_wp2
      go_ret2
      obtain ⟨rfl, rfl⟩ := Prod.mk.inj (Option.some.inj HX.out)
      exact ⟨_, rfl, Kd.R_lower (Kd.R_mono (Kd.R_below HRR.out hbn) (fun _ _ => trivial)) (Nat.le_trans (Nat.le_succ _) (Nat.le_of_eq HZ1.out)), below_step HB2.out hbn⟩
end Go.Proofs.Ytmmichdlgjcmoaa.PAll
