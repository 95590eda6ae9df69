import Derived.Test.YtmmichdlgjcmoaaPAllx0
import Derived.Deep.DeepMust
namespace Go.Proofs.Ytmmichdlgjcmoaa.PAll
open Go.RowKit Go.Proofs.YtmmichdlgjcmoaaW.PrintWords Go.Proofs.YtmmichdlgjcmoaaW.PrintLast Go.Proofs.YtmmichdlgjcmoaaW.PrintMore
set_option linter.unusedVariables false
set_option linter.unusedSimpArgs false
namespace H
theorem ret_int {k : IntKind} {a b : Int} (h : a = b) : Ending.returned (.int k a) = .returned (.int k b) := by rw [h]
theorem ret_bool {a b : Bool} (h : a = b) : Ending.returned (.bool a) = .returned (.bool b) := by rw [h]
def index (c : Int) : Int := if 97 ≤ c ∧ c < 105 then 2 * (c - 97) else if 65 ≤ c ∧ c < 73 then 2 * (c - 65) + 1 else -1
theorem index_range (c : Int) : -1 ≤ index c ∧ index c ≤ 15 := by unfold index; split <;> (try split) <;> omega
theorem index_calls (c : Int) (w : World) (h0 : 0 ≤ c) (h1 : c ≤ 255) :
    Calls Try.prog 55 #[.int .u8 c] w fun e w' => e = .returned (.int .i64 (index c)) ∧ w = w' := by
  by_cases a : 97 ≤ c <;> by_cases b : c < 105 <;> by_cases d : 65 ≤ c <;> by_cases e : c < 73 <;> try omega
  all_goals
    go_enter Try.func55, Try.ntmps55
    go_wp2
    go_ret
    exact ⟨ret_int (by unfold index; (repeat' split) <;> omega), rfl⟩
def letterOk (g c : Int) : Bool := decide (0 ≤ index c) && decide (index c < 2 * g)
def isWordL (g : Int) (xs : List Int) : Bool := decide (xs.length ≤ 100000) && xs.all (letterOk g)
theorem isWordL_no {g : Int} {s : ByteArray} {k : Nat} (hk : k < s.size) (h : letterOk g (bt s k) = false) : isWordL g (bytesOf s) = false := by
  unfold isWordL
  rw [Bool.and_eq_false_iff]
  right
  rw [List.all_eq_false]
  refine ⟨bt s k, ?_, by simp [h]⟩
  rw [← rd_bytesOf, rd, Int.toNat_natCast, List.getD_eq_getElem?_getD, List.getElem?_eq_getElem (by rw [bytesOf_length]; exact hk)]
  exact List.getElem_mem _
set_option maxHeartbeats 400000 in
theorem isWord_calls (g : Int) (A : Option Addr) (n c : Nat) (s : ByteArray) (w : World) (h0 : 1 ≤ g) (h1 : g ≤ 8) :
    Calls Try.prog 61 #[.agg #[.int .i64 g, .slice A n c], .string s] w fun e w' => e = .returned (.bool (isWordL g (bytesOf s))) ∧ Below w.heap.size w w' := by
  by_cases hs : (100000 : Int) < s.size
  · have hf : isWordL g (bytesOf s) = false := by
      unfold isWordL; rw [bytesOf_length]; simp; omega
    rw [hf]
    go_enter Try.func61, Try.ntmps61
    go_wp2
    go_ret
    exact ⟨rfl, below_alloc (Below.refl _ _) _⟩
  · have hs' : (s.size : Int) ≤ 100000 := by omega
    have kb := fun W => print_bytes (P := Try.prog) 9 67 5 Try.underlying9 Try.underlying67 Try.underlying5 s W
    go_enter Try.func61, Try.ntmps61
    go_wp2
    clear kb
    obtain ⟨W0, hW0⟩ : ∃ W0, W0 = w.alloc (Obj.cells #[Value.int IntKind.i64 g, Value.slice A n c] 24) := ⟨_, rfl⟩
    have hz : W0.heap.size = w.heap.size + 1 := by rw [hW0, World.size_alloc]
    have hB0 : Below w.heap.size w W0 := by rw [hW0]; exact below_alloc (Below.refl _ _) _
    have hg0 : W0.cell? ⟨w.heap.size, 0, none⟩ = some (.int .i64 g) := by rw [hW0]; go_simp
    rw [← hW0]
    clear hW0
    obtain ⟨W1, hW1⟩ : ∃ W1, W1 = Lib.bytesWorld W0 5 s := ⟨_, rfl⟩
    have hB1 : Below w.heap.size w W1 := by rw [hW1]; exact bytes_below hB0 (by omega) _ _
    have hg1 : W1.cell? ⟨w.heap.size, 0, none⟩ = some (.int .i64 g) := by rw [hW1, Lib.bytesWorld_old _ _ _ _ (by show w.heap.size < _; omega)]; exact hg0
    have hr1 : Kd.C (Kd.int .u8) W1 (some ⟨w.heap.size + 1, 0, none⟩) s.size (bytesOf s) := by rw [hW1, ← hz]; exact Kd.C_of_reads (enc := Value.int .u8) (d := (0 : Int)) (h1 := fun _ => rfl) (bytes_reads W0 5 s (by omega))
    rw [← hW1]
    clear hW1
    have hb := fun k (h : k < s.size) => bt_range s (k : Int)
    go_loop [6, 7, 14] (fun _ _ i => ∃ k : Nat, k ≤ s.size ∧ i = .int .i64 k ∧ Aside0 (((bytesOf s).take k).all (letterOk g) = true)) (fun _ _ i => s.size - (intOf i).toNat)
    case atStart => exact ⟨0, Nat.zero_le _, rfl, ⟨by simp⟩⟩
    case round =>
      obtain ⟨k, hk, rfl, hall⟩ := hrel
      by_cases hlt : k < s.size
      · obtain ⟨ad, e1, hcell⟩ := Kd.at_int hr1 (k : Int) (by omega) (by omega)
        cases e1
        rw [rd_bytesOf, add_plain, Int.toNat_natCast] at hcell
        have hsn : (bytesOf s).take (k + 1) = (bytesOf s).take k ++ [bt s k] := by
          rw [List.take_succ_eq_append_getElem (by rw [bytesOf_length]; exact hlt), ← rd_bytesOf]
          simp [rd, bytesOf_length, hlt]
        have hq := bt_range s (k : Int)
        have hi := index_range (bt s k)
        by_cases c1 : index (bt s k) < 0
        · have hf : Aside0 (isWordL g (bytesOf s) = false) := ⟨isWordL_no hlt (by unfold letterOk; simp; omega)⟩
          go_wp2_with (go_at_call 55; refine (index_calls _ _ hq.1 hq.2).mono ?_; rintro e w' ⟨rfl, rfl⟩)
          go_ret
          exact ⟨ret_bool hf.out.symm, hB1⟩
        · by_cases c2 : index (bt s k) < 2 * g
          · go_wp2_with (go_at_call 55; refine (index_calls _ _ hq.1 hq.2).mono ?_; rintro e w' ⟨rfl, rfl⟩)
            go_round
            case rel => exact ⟨k + 1, by omega, by go_num, ⟨by rw [hsn, List.all_append, hall.out]; simp [letterOk]; omega⟩⟩
            case measure => simp [intOf]; omega
          · have hf : Aside0 (isWordL g (bytesOf s) = false) := ⟨isWordL_no hlt (by unfold letterOk; simp; omega)⟩
            go_wp2_with (go_at_call 55; refine (index_calls _ _ hq.1 hq.2).mono ?_; rintro e w' ⟨rfl, rfl⟩)
            go_ret
            exact ⟨ret_bool hf.out.symm, hB1⟩
      · have hf : Aside0 (isWordL g (bytesOf s) = true) := ⟨by
            have h2 := hall.out
            rw [List.take_of_length_le (by rw [bytesOf_length]; omega)] at h2
            unfold isWordL; rw [h2, bytesOf_length]; simp; omega⟩
        go_wp2
        go_ret
        exact ⟨ret_bool hf.out.symm, hB1⟩
def otherB (c : Int) : Int := Go.bits .xor .u8 c 32
def canc (a b : Int) : Bool := a == otherB b
theorem other_calls (c : Int) (w : World) : Calls Try.prog 68 #[.int .u8 c] w fun e w' => e = .returned (.int .u8 (otherB c)) ∧ w = w' := by
  go_enter Try.func68, Try.ntmps68
  go_wp2
  go_ret
  exact ⟨rfl, rfl⟩
theorem inverted_calls (a b : Int) (w : World) : Calls Try.prog 58 #[.int .u8 a, .int .u8 b] w fun e w' => e = .returned (.bool (canc a b)) ∧ w = w' := by
  go_enter Try.func58, Try.ntmps58
  go_wp2_with (go_at_call 68; refine (other_calls _ _).mono ?_; rintro e w' ⟨rfl, rfl⟩)
  go_ret
  exact ⟨rfl, rfl⟩
def pushW {α : Type} (canc : α → α → Bool) (out : List α) (x : α) : List α :=
  match out.getLast? with
  | some y => if canc y x then out.dropLast else out ++ [x]
  | none => out ++ [x]
theorem pushW_len {α : Type} (f : α → α → Bool) (out : List α) (x : α) : (pushW f out x).length ≤ out.length + 1 := by
  unfold pushW; split <;> (try split) <;> simp <;> omega
theorem foldl_pushW_len {α : Type} (f : α → α → Bool) (l : List α) : ∀ out : List α, (l.foldl (pushW f) out).length ≤ out.length + l.length := by
  induction l with
  | nil => intro out; simp
  | cons x l ih => intro out; have := ih (pushW f out x); have := pushW_len f out x; simp only [List.foldl_cons, List.length_cons]; omega
theorem last_rd {xs : List Int} (h : 0 < xs.length) : xs.getLast? = some (rd xs ((xs.length : Int) - 1)) := by
  rw [List.getLast?_eq_getElem?]
  have e : ((xs.length : Int) - 1).toNat = xs.length - 1 := by omega
  rw [rd, e, List.getD_eq_getElem?_getD, List.getElem?_eq_getElem (by omega)]
  rfl
theorem pushW_cut {f : Int → Int → Bool} {xs : List Int} {x : Int} (h : 0 < xs.length) (hc : f (rd xs ((xs.length : Int) - 1)) x = true) : pushW f xs x = xs.take (xs.length - 1) := by
  unfold pushW
  rw [last_rd h]
  simp only [hc, if_true]
  rw [List.dropLast_eq_take]
theorem pushW_add {f : Int → Int → Bool} {xs : List Int} {x : Int} (hc : 0 < xs.length → f (rd xs ((xs.length : Int) - 1)) x = false) : pushW f xs x = xs ++ [x] := by
  by_cases h : 0 < xs.length
  · unfold pushW
    rw [last_rd h]
    simp [hc h]
  · have : xs = [] := List.eq_nil_of_length_eq_zero (by omega)
    subst this; rfl
theorem take_rd (l : List Int) (k : Nat) (h : k < l.length) : l.take (k + 1) = l.take k ++ [rd l (k : Int)] := by
  rw [List.take_succ_eq_append_getElem h]
  simp [rd, h]
set_option maxHeartbeats 800000 in
theorem push_calls (P0 : Nat → Prop) (u : Value) (xs : List Int) (A : Option Addr) (c : Nat) (l : List Int) (w0 w : World) (hB : Below w0.heap.size w0 w)
    (ho : Kd.R (Kd.int .u8) 5 w w0.heap.size P0 u xs) (hl : ∀ W_, Kept w W_ P0 → Kd.C (Kd.int .u8) W_ A l.length l) (hc : l.length ≤ c) (hlen : xs.length + l.length ≤ 1000000000) :
    Calls Try.prog 62 #[u, .func (.func 58) #[] #[], .slice A l.length c] w fun e w' => ∃ v0 : Value, e = .returned v0 ∧ Kd.R (Kd.int .u8) 5 w' w0.heap.size (fun k => P0 k ∨ w.heap.size ≤ k) v0 (l.foldl (pushW canc) xs) ∧ Below w0.heap.size w0 w' ∧ Kept w w' P0 := by
  have HO0 := Aside0.mk (show Kd.R (Kd.int .u8) 5 w w0.heap.size (fun k => P0 k ∨ w.heap.size ≤ k) u xs from Kd.R_mono ho (fun k hk => .inl hk))
  have HK := Aside0.mk (Kept.refl w P0)
  have HB := Aside0.mk hB
  have HL := Aside0.mk hl
  have HC := Aside0.mk hc
  have HN := Aside0.mk hlen
  clear hB ho hl hc hlen
  go_enter Try.func62, Try.ntmps62
  go_wp2
  go_loopw [0, 12] (fun v i wr => ∃ (k : Nat) (ys : List Int), k ≤ l.length ∧ i = .int .i64 k ∧ Aside0 (ys = (l.take k).foldl (pushW canc) xs) ∧ Aside0 (Kd.R (Kd.int .u8) 5 wr w0.heap.size (fun k => P0 k ∨ w.heap.size ≤ k) v ys) ∧ Aside0 (Below w0.heap.size w0 wr) ∧ Aside0 (Kept w wr P0)) (fun _ i _ => l.length - (intOf i).toNat)
  case atStart => exact ⟨0, xs, Nat.zero_le _, rfl, ⟨rfl⟩, HO0, HB, HK⟩
  case round =>
    clear HO0 HB HK
    obtain ⟨k, ys, hk, rfl, HY, HO, HB, HK⟩ := hrel
    by_cases hlt : k < l.length
    · obtain ⟨Ao, co, eo⟩ := Kd.R_slice HO.out
      subst eo
      obtain ⟨ad, e1, hcell⟩ := Kd.at_int (HL.out wr HK.out) (k : Int) (by omega) (by omega)
      cases e1
      rw [Int.toNat_natCast] at hcell
      have hst : (l.take (k + 1)).foldl (pushW canc) xs = pushW canc ys (rd l (k : Int)) := by rw [take_rd l k hlt, List.foldl_append, HY.out]; rfl
      have HS := Aside0.mk hst
      have HN2 : Aside0 (ys.length < 1000000000) := ⟨by
        have h1 := foldl_pushW_len canc (l.take k) xs
        rw [← HY.out, List.length_take] at h1
        have := HN.out; omega⟩
      clear hst HY
      have hyl : ys.length < 1000000000 := HN2.out
      have hll : l.length ≤ 1000000000 := by have := HN.out; omega
      by_cases hp : 0 < ys.length
      · obtain ⟨ad2, e2, hcell2⟩ := Kd.at_int (Kd.R_reads' HO.out).2.2 ((ys.length : Int) - 1) (by omega) (by omega)
        cases e2
        rw [show ((ys.length : Int) - 1).toNat = ys.length - 1 from by omega] at hcell2
        by_cases hcan : canc (rd ys ((ys.length : Int) - 1)) (rd l (k : Int)) = true
        · have HR := Aside0.mk (HS.out.trans (pushW_cut hp hcan))
          have HT := Aside0.mk (Kd.R_take (m := ys.length - 1) HO.out (by omega))
          obtain ⟨i0, hi0, _, hsz, _⟩ := info_parts info5
          have hcut := cut_to (P := Try.prog) 67 5 .i64 Try.underlying67 hi0 (some ad2) ys.length co ((ys.length : Int) - 1) (by omega) (by omega) (Kd.R_reads' HO.out).2.1
          rw [show ((ys.length : Int) - 1).toNat = ys.length - 1 from by omega] at hcut
          clear hsz hi0
          go_wp2_with (go_at_call 58; refine (inverted_calls _ _ _).mono ?_; rintro e w' ⟨rfl, rfl⟩)
          go_roundw
          case rel => exact ⟨k + 1, _, by omega, by go_num, ⟨HR.out.symm⟩, HT, HB, HK⟩
          case measure => simp [intOf]; omega
        · have hcan2 : canc (rd ys ((ys.length : Int) - 1)) (rd l (k : Int)) = false := by simpa using hcan
          have HR := Aside0.mk (HS.out.trans (pushW_add (fun _ => hcan2)))
          clear hcan
          go_wp2_with (first | (go_at_call 58; refine (inverted_calls _ _ _).mono ?_; rintro e w' ⟨rfl, rfl⟩) | ((with_reducible refine gate_builtin (b := .append) (xs := #[.tmp 34, .tmp 36]) rfl ?_); at_builtin; go_must ((refine Kd.R_append (Kd.int .u8) (w0 := w0) w0.heap.size rfl (.tmp 34) (.tmp 36) 67 5 (.int .u8 0) 1 rfl Try.underlying67 info5 rfl (by decide) (by omega) _ ys (rd l (k : Int)) [.int .u8 (rd l (k : Int))] (fun k => P0 k ∨ w.heap.size ≤ k) (fun _ => False) rfl rfl ?aP (fun _ hk => hk.elim) ?aF ?aO ?aB ?aS ?aL ?_); (case aP => exact rfl); (case aB => exact HB.out); (case aF => exact fun k hk => .inr (Nat.le_trans HK.out.1 hk)); (case aO => exact HO.out); (case aS => exact HB.out.size); (case aL => have := HN2.out; omega); intro v1 w1 hoa hba hga hat; have HBn := Aside0.mk hba; have HKn := Aside0.mk (Kept.of_grown (S := P0) hga HK.out (fun k e_ => HO.out.1 k e_)); have HOn := Aside0.mk hoa; clear hba hga hat hoa)))
          go_roundw
          case rel => exact ⟨k + 1, _, by omega, by go_num, ⟨HR.out.symm⟩, HOn, HBn, HKn⟩
          case measure => simp [intOf]; omega
      · have HR := Aside0.mk (HS.out.trans (pushW_add (fun h => absurd h hp)))
        have hnil : ys = [] := List.eq_nil_of_length_eq_zero (by omega)
        subst hnil
        simp only [List.length_nil] at HO
        clear hp
        go_wp2_with (((with_reducible refine gate_builtin (b := .append) (xs := #[.tmp 34, .tmp 36]) rfl ?_); at_builtin; go_must ((refine Kd.R_append (Kd.int .u8) (w0 := w0) w0.heap.size rfl (.tmp 34) (.tmp 36) 67 5 (.int .u8 0) 1 rfl Try.underlying67 info5 rfl (by decide) (by omega) _ ([] : List Int) (rd l (k : Int)) [.int .u8 (rd l (k : Int))] (fun k => P0 k ∨ w.heap.size ≤ k) (fun _ => False) rfl rfl ?aP (fun _ hk => hk.elim) ?aF ?aO ?aB ?aS ?aL ?_); (case aP => exact rfl); (case aB => exact HB.out); (case aF => exact fun k hk => .inr (Nat.le_trans HK.out.1 hk)); (case aO => exact HO.out); (case aS => exact HB.out.size); (case aL => have := HN2.out; omega); intro v1 w1 hoa hba hga hat; have HBn := Aside0.mk hba; have HKn := Aside0.mk (Kept.of_grown (S := P0) hga HK.out (fun k e_ => HO.out.1 k e_)); have HOn := Aside0.mk hoa; clear hba hga hat hoa)))
        go_roundw
        case rel => exact ⟨k + 1, _, by omega, by go_num, ⟨HR.out.symm⟩, HOn, HBn, HKn⟩
        case measure => simp [intOf]; omega
    · have hke : k = l.length := by omega
      have HF : Aside0 (ys = l.foldl (pushW canc) xs) := ⟨by rw [HY.out, hke, List.take_length]⟩
      clear hke
      go_wp2
      go_ret
      exact ⟨_, rfl, by rw [← HF.out]; exact HO.out, HB.out, HK.out⟩
def redL (ls : List ByteArray) : List Int := ls.foldl (fun out s => (bytesOf s).foldl (pushW canc) out) []
def sizes (ls : List ByteArray) : Nat := ls.foldl (fun n s => n + s.size) 0
theorem redL_snoc (ls : List ByteArray) (s : ByteArray) : redL (ls ++ [s]) = (bytesOf s).foldl (pushW canc) (redL ls) := by simp [redL, List.foldl_append]
theorem sizes_snoc (ls : List ByteArray) (s : ByteArray) : sizes (ls ++ [s]) = sizes ls + s.size := by simp [sizes, List.foldl_append]
theorem sizes_acc (ls : List ByteArray) : ∀ n, ls.foldl (fun n s => n + s.size) n = n + sizes ls := by
  unfold sizes
  induction ls with
  | nil => intro n; simp
  | cons s ls ih => intro n; simp only [List.foldl_cons]; rw [ih, ih (0 + s.size)]; omega
theorem sizes_cons (s : ByteArray) (ls : List ByteArray) : sizes (s :: ls) = s.size + sizes ls := by
  show ls.foldl (fun n s => n + s.size) (0 + s.size) = _
  rw [sizes_acc]; omega
theorem sizes_append (l r : List ByteArray) : sizes (l ++ r) = sizes l + sizes r := by
  induction l with
  | nil => simp [sizes]
  | cons s l ih => rw [List.cons_append, sizes_cons, sizes_cons, ih]; omega
theorem sizes_take (l : List ByteArray) (k : Nat) : sizes (l.take k) ≤ sizes l := by
  have h := sizes_append (l.take k) (l.drop k)
  rw [List.take_append_drop] at h
  omega
theorem redL_len (ls : List ByteArray) : (redL ls).length ≤ sizes ls := by
  suffices h : ∀ (ls : List ByteArray) (out : List Int), (ls.foldl (fun out s => (bytesOf s).foldl (pushW canc) out) out).length ≤ out.length + sizes ls by
    have := h ls []; simpa [redL] using this
  intro ls
  induction ls with
  | nil => intro out; simp [sizes]
  | cons s ls ih => intro out; have := ih ((bytesOf s).foldl (pushW canc) out); have := foldl_pushW_len canc (bytesOf s) out; rw [bytesOf_length] at this; rw [sizes_cons]; simp only [List.foldl_cons]; omega
theorem push_callsN (P0 : Nat → Prop) (u : Value) (xs : List Int) (A : Option Addr) (n c : Nat) (l : List Int) (hn : l.length = n) (w0 w : World) (hB : Below w0.heap.size w0 w)
    (ho : Kd.R (Kd.int .u8) 5 w w0.heap.size P0 u xs) (hl : ∀ W_, Kept w W_ P0 → Kd.C (Kd.int .u8) W_ A n l) (hc : n ≤ c) (hlen : xs.length + l.length ≤ 1000000000) :
    Calls Try.prog 62 #[u, .func (.func 58) #[] #[], .slice A n c] w fun e w' => ∃ v0 : Value, e = .returned v0 ∧ Kd.R (Kd.int .u8) 5 w' w0.heap.size (fun k => P0 k ∨ w.heap.size ≤ k) v0 (l.foldl (pushW canc) xs) ∧ Below w0.heap.size w0 w' ∧ Kept w w' P0 := by
  subst hn
  exact push_calls P0 u xs A c l w0 w hB ho hl hc hlen
theorem bytes_kept (W : World) (e : Nat) (s : ByteArray) (hs : s.size ≤ 9223372036854775807) {S : Nat → Prop} (hS : ¬ S W.heap.size) :
    ∀ W_, Kept (Lib.bytesWorld W e s) W_ S → Kd.C (Kd.int .u8) W_ (some ⟨W.heap.size, 0, none⟩) s.size (bytesOf s) := by
  intro W_ hk
  refine Kd.C_of_reads (enc := Value.int .u8) (d := (0 : Int)) (h1 := fun _ => rfl) ⟨bytesOf_length s, hs, fun _ => ⟨_, rfl, fun j hj => ?_⟩⟩
  have h := (bytes_reads W e s hs).2.2 (by omega)
  obtain ⟨ad, e1, hc⟩ := h
  cases e1
  rw [← hc j hj, add_plain]
  unfold World.cell?
  rw [hk.2 W.heap.size (by rw [Lib.bytesWorld_size]; omega) hS]
end H
open H
def disk_isWord.f (g : Int) (rels : List ByteArray) (s : ByteArray) : Option Bool := if 1 ≤ g ∧ g ≤ 8 then some (isWordL g (bytesOf s)) else none
theorem disk_isWord.calls (a0_0 : Int) (A0_1 : Option Addr) (c0_1 : Nat) (l0_1 : List ByteArray) (a1 : ByteArray) (r : Bool) (w : World) (hr0_1 : Kd.C Kd.string w A0_1 l0_1.length l0_1) (hc0_1 : l0_1.length ≤ c0_1) (h : disk_isWord.f a0_0 l0_1 a1 = some r) :
    Calls Try.prog 61 #[.agg #[.int .i64 a0_0, .slice A0_1 l0_1.length c0_1], .string a1] w fun e w' => e = .returned (.bool r) ∧ Below w.heap.size w w' := by
  unfold disk_isWord.f at h
  split at h
  · rename_i hg
    obtain rfl := Option.some.inj h
    exact isWord_calls a0_0 A0_1 _ c0_1 a1 w hg.1 hg.2
  · cases h
def disk_reduced.f (ls : List ByteArray) : Option ByteArray := if sizes ls ≤ 100000000 then some (strOfNums (redL ls)) else none
set_option maxHeartbeats 800000 in
theorem disk_reduced.calls (A0 : Option Addr) (c0 : Nat) (l0 : List ByteArray) (r : ByteArray) (w : World) (hr0 : Kd.C Kd.string w A0 l0.length l0) (hc0 : l0.length ≤ c0) (h : disk_reduced.f l0 = some r) :
    Calls Try.prog 40 #[.slice A0 l0.length c0] w fun e w' => e = .returned (.string r) ∧ Below w.heap.size w w' := by
  unfold disk_reduced.f at h
  split at h
  case isFalse => cases h
  rename_i hsz
  obtain rfl := Option.some.inj h
  clear h
  have HR := Aside0.mk hr0
  have HC := Aside0.mk hc0
  have HN := Aside0.mk hsz
  clear hr0 hc0 hsz
  go_enter Try.func40, Try.ntmps40
  go_wp2
  go_loopw [3, 8] (fun v i wr => ∃ (k : Nat) (ys : List Int), k ≤ l0.length ∧ i = .int .i64 k ∧ Aside0 (ys = redL (l0.take k)) ∧ Aside0 (Kd.R (Kd.int .u8) 5 wr w.heap.size (fun _ => True) v ys) ∧ Aside0 (Below w.heap.size w wr)) (fun _ i _ => l0.length - (intOf i).toNat)
  case atStart => exact ⟨0, [], Nat.zero_le _, rfl, ⟨rfl⟩, ⟨Kd.R_nil _ _ _ _ _⟩, ⟨Below.refl _ _⟩⟩
  case round =>
    obtain ⟨k, ys, hk, rfl, HY, HO, HB⟩ := hrel
    have hll : l0.length ≤ 9223372036854775807 := Kd.C_max HR.out
    by_cases hlt : k < l0.length
    · obtain ⟨s, hs⟩ : ∃ s, rdOf ByteArray.empty l0 (k : Int) = s := ⟨_, rfl⟩
      obtain ⟨ad, e1, hcell⟩ := Kd.at_string (Kd.C_below HR.out HB.out) (k : Int) (by omega) (by omega)
      cases e1
      rw [Int.toNat_natCast, hs] at hcell
      have hst : l0.take (k + 1) = l0.take k ++ [s] := by
        rw [List.take_succ_eq_append_getElem hlt, ← hs]
        simp [rdOf, hlt]
      have hsz1 : sizes (l0.take k) + s.size ≤ sizes l0 := by
        have := sizes_take l0 (k + 1)
        rw [hst, sizes_snoc] at this
        exact this
      have hsz2 := HN.out
      have HY2 := Aside0.mk (show (bytesOf s).foldl (pushW canc) ys = redL (l0.take (k + 1)) by rw [hst, redL_snoc, HY.out])
      have HLn : Aside0 (ys.length + (bytesOf s).length ≤ 1000000000) := ⟨by
        have := redL_len (l0.take k)
        rw [← HY.out] at this
        rw [bytesOf_length]; omega⟩
      have hss : s.size ≤ 100000000 := by omega
      clear hsz1 hsz2 hst hs HY
      obtain ⟨Ao, co, eo⟩ := Kd.R_slice HO.out
      subst eo
      have kb := fun W => print_bytes (P := Try.prog) 9 67 5 Try.underlying9 Try.underlying67 Try.underlying5 s W
      go_wp2_with (go_at_call 62; go_must ((refine (push_callsN (fun k_ => some k_ = (.slice Ao ys.length co : Value).ownBlock) _ ys _ _ _ (bytesOf s) (bytesOf_length s) w _ ?aB ?aO ?aL ?aC HLn.out).mono ?_); (case aB => exact bytes_below HB.out HB.out.size _ _); (case aO => exact Kd.R_tight rfl (Kd.R_below HO.out (bytes_below (Below.refl _ _) (Nat.le_refl _) _ _))); (case aC => exact grownCap_ge _ _ _ _); (case aL => exact bytes_kept wr 5 s (by omega) (fun h => by have := Kd.R_lt HO.out _ h.symm; omega)); rintro e w1 ⟨v1, rfl, ho1, hb1, hk1⟩; have HO1 := Aside0.mk (Kd.R_mono (ok' := fun _ => True) ho1 (fun _ _ => trivial)); have HB1 := Aside0.mk hb1; clear ho1 hb1 hk1))
      go_roundw
      case rel => exact ⟨k + 1, _, by omega, by go_num, HY2, HO1, HB1⟩
      case measure => simp [intOf]; omega
    · have hke : k = l0.length := by omega
      have HF : Aside0 (ys = redL l0) := ⟨by rw [HY.out, hke, List.take_length]⟩
      clear hke
      obtain ⟨Ao, co, eo⟩ := Kd.R_slice HO.out
      subst eo
      have hcv := Kd.C_string (P := Try.prog) (c := co) Try.underlying67 Try.underlying5 Try.underlying9 (Kd.R_reads' HO.out).2.2
      go_wp2
      go_ret
      exact ⟨by rw [HF.out]; rfl, HB.out⟩
end Go.Proofs.Ytmmichdlgjcmoaa.PAll
