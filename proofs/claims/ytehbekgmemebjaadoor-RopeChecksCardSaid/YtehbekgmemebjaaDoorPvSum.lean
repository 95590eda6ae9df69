import Derived.Test.YtehbekgmemebjaaDoorPvPa
import Derived.Test.YtehbekgmemebjaaDoorEvZ
import Derived.Test.YtehbekgmemebjaaDoorPvSumC
namespace Go.Proofs.YtehbekgmemebjaaDoorEv
open Go Go.RowKit Go.Proofs.YtehbekgmemebjaaDoor.PAll Go.Proofs.YtehbekgmemebjaaDoor.PAll.H Go.Proofs.YtehbekgmemebjaaDoorW.PrintWords Go.Proofs.YtehbekgmemebjaaDoorW.PrintLast Go.Proofs.YtehbekgmemebjaaDoorW.PrintMore
set_option linter.unusedVariables false
set_option linter.unusedSimpArgs false
attribute [local go_sem] evOp beq_true beq_false List.getElem?_toArray List.getElem?_cons_zero List.getElem?_cons_succ env_tmp env_const env_func env_global nx_get nx_getn nx_H nx_ds nx_df nx_pm get_enter one_ne_zero' zero_ne_one' if_false if_true ite_true ite_false List.getD_cons_zero List.getD_cons_succ Option.map_some Option.map_none Option.bind_some binO unO eqO List.map_toArray List.map_cons List.map_nil Array.append_empty Array.empty_append List.nil_append List.append_nil List.append_toArray List.cons_append ne_eq not_true_eq_false Bool.false_eq_true Bool.not_true Bool.not_false Bool.true_eq_false
def ints (l : List Int) : List Value := l.map (Value.int .i64)
def addL (acc : List Int) (c : Int) : List Int := acc.set (Int.tdiv (index c) 2).toNat (IntKind.i64.wrap (rd acc (Int.tdiv (index c) 2) + (1 - 2 * Int.tmod (index c) 2)))
def leafV (s : ByteArray) : List Int := (bytesOf s).foldl addL (List.replicate 8 0)
def vecOf (done : List (List Int)) (x : S55) : List Int :=
  if x.f0.size ≠ 0 then leafV x.f0
  else if x.f3 ≠ 0 then (List.range 8).map fun i : Nat => IntKind.i64.wrap (rd (done.getD x.f1.toNat []) i * x.f3)
  else (List.range 8).map fun i : Nat => IntKind.i64.wrap (rd (done.getD x.f1.toNat []) i + rd (done.getD x.f2.toNat []) i)
def vecsF : List (List Int) → List S55 → List (List Int)
  | done, [] => done
  | done, x :: r => vecsF (done ++ [vecOf done x]) r
def vecs (l : List S55) : List (List Int) := vecsF [] l
theorem addL_len (acc : List Int) (c : Int) : (addL acc c).length = acc.length := by unfold addL; simp
theorem leafV_len (s : ByteArray) : (leafV s).length = 8 := by
  unfold leafV
  generalize bytesOf s = l
  have : ∀ (l : List Int) (acc : List Int), (l.foldl addL acc).length = acc.length := by
    intro l
    induction l with
    | nil => intro acc; rfl
    | cons c r ih => intro acc; rw [List.foldl_cons, ih, addL_len]
  rw [this]
  simp
theorem vecOf_len (done : List (List Int)) (x : S55) : (vecOf done x).length = 8 := by
  unfold vecOf
  split
  · exact leafV_len _
  · split <;> simp
def KeepX (mb : Nat) (H H' : Hp) : Prop := H.size ≤ H'.size ∧ ∀ c, c < H.size → c ≠ mb → H'.get c = H.get c
theorem KeepX.refl (mb : Nat) (H : Hp) : KeepX mb H H := ⟨Nat.le_refl _, fun _ _ _ => rfl⟩
theorem KeepX.trans {mb : Nat} {a b c : Hp} (h : KeepX mb a b) (k : KeepX mb b c) : KeepX mb a c := ⟨Nat.le_trans h.1 k.1, fun x hx hm => (k.2 x (Nat.lt_of_lt_of_le hx h.1) hm).trans (h.2 x hx hm)⟩
theorem KeepX.new (mb : Nat) (H : Hp) (o : AObj) : KeepX mb H (H.new o) := ⟨by rw [Hp.size_new]; omega, fun c hc _ => by rw [Hp.get_new, if_neg (by omega)]⟩
theorem KeepX.put {mb : Nat} {H H' : Hp} (h : KeepX mb H H') {b : Nat} (hb : H.size ≤ b ∨ b = mb) (o : AObj) : KeepX mb H (H'.put b o) := ⟨by rw [Hp.size_put]; exact h.1, fun c hc hm => by rw [Hp.get_put, if_neg (by omega)]; exact h.2 c hc hm⟩
def EntOK (l : List S55) (mb : Nat) (bad : Nat → Prop) (H : Hp) (e : MapEntry) : Prop :=
  ∃ (j b : Nat) (u : UT) (ro : Bool), e.key = .int .i64 (j : Int) ∧ e.val = .slice (some ⟨b, 0, none⟩) 8 8 ∧ b < H.size ∧ b ≠ mb ∧ ¬ bad b ∧ H.get b = some (.cells (ints ((vecs l).getD j [])) u ro)
theorem EntOK.keep {l : List S55} {mb : Nat} {bad : Nat → Prop} {H H' : Hp} {e : MapEntry} (h : EntOK l mb bad H e) (k : KeepX mb H H') : EntOK l mb bad H' e := by
  obtain ⟨j, b, u, ro, h1, h2, h3, h4, h5, h6⟩ := h
  exact ⟨j, b, u, ro, h1, h2, Nat.lt_of_lt_of_le h3 k.1, h4, h5, (k.2 b h3 h4).trans h6⟩
abbrev pt (b : Nat) : Value := .pointer (some ⟨b, 0, none⟩)
structure SInv (l : List S55) (bs : Option Addr) (cp kb rb ob mb : Nat) (bad : Nat → Prop) (H : Hp) : Prop where
  gg : GG H
  k : ∃ u ro, H.get kb = some (.cells [.map (some mb)] u ro)
  r : ∃ u ro, H.get rb = some (.cells [.slice bs l.length cp] u ro)
  o : ∃ u ro, H.get ob = some (.cells [.func (.func 45) #[] #[pt kb, pt rb, pt ob]] u ro)
  m : ∃ es c, H.get mb = some (.map es c) ∧ ∀ e ∈ es, EntOK l mb bad H e
  m0 : mb ≠ 0
  kl : kb < H.size ∧ kb ≠ mb
  rl : rb < H.size ∧ rb ≠ mb
  ol : ob < H.size ∧ ob ≠ mb
  ml : mb < H.size
  row : l = [] ∨ ∃ b o sp bc u ro rst, bs = some ⟨b, o, sp⟩ ∧ b < H.size ∧ b ≠ mb ∧ H.get b = some (.cells bc u ro) ∧ bc.drop o = l.flatMap enc55 ++ rst
  bl : ∀ c, bad c → c < H.size
section
variable {l : List S55} {bs : Option Addr} {cp kb rb ob mb : Nat} {bad : Nat → Prop} {H H' : Hp}
theorem SInv.keep (h : SInv l bs cp kb rb ob mb bad H) (k : KeepX mb H H') (hm : ∃ es c, H'.get mb = some (.map es c) ∧ ∀ e ∈ es, EntOK l mb bad H' e) : SInv l bs cp kb rb ob mb bad H' := by
  have hs := k.1
  refine ⟨⟨Nat.lt_of_lt_of_le h.gg.1 hs, ?_⟩, ?_, ?_, ?_, hm, h.m0, ⟨Nat.lt_of_lt_of_le h.kl.1 hs, h.kl.2⟩, ⟨Nat.lt_of_lt_of_le h.rl.1 hs, h.rl.2⟩, ⟨Nat.lt_of_lt_of_le h.ol.1 hs, h.ol.2⟩, Nat.lt_of_lt_of_le h.ml hs, ?_, fun c hc => Nat.lt_of_lt_of_le (h.bl c hc) hs⟩
  · obtain ⟨u, ro, e⟩ := h.gg.2
    exact ⟨u, ro, (k.2 0 h.gg.1 h.m0.symm).trans e⟩
  · obtain ⟨u, ro, e⟩ := h.k
    exact ⟨u, ro, (k.2 kb h.kl.1 h.kl.2).trans e⟩
  · obtain ⟨u, ro, e⟩ := h.r
    exact ⟨u, ro, (k.2 rb h.rl.1 h.rl.2).trans e⟩
  · obtain ⟨u, ro, e⟩ := h.o
    exact ⟨u, ro, (k.2 ob h.ol.1 h.ol.2).trans e⟩
  · rcases h.row with e | ⟨b, o, sp, bc, u, ro, rst, e1, e2, e3, e4, e5⟩
    · exact .inl e
    · exact .inr ⟨b, o, sp, bc, u, ro, rst, e1, Nat.lt_of_lt_of_le e2 hs, e3, (k.2 b e2 e3).trans e4, e5⟩
theorem SInv.keepM (h : SInv l bs cp kb rb ob mb bad H) (k : KeepX mb H H') (hm : H'.get mb = H.get mb) : SInv l bs cp kb rb ob mb bad H' := by
  obtain ⟨es, c, e1, e2⟩ := h.m
  exact h.keep k ⟨es, c, hm.trans e1, fun e he => (e2 e he).keep k⟩
theorem SInv.more (h : SInv l bs cp kb rb ob mb bad H) {b0 : Nat} (hb : b0 < H.size) (hn : ∀ es c, H.get mb = some (.map es c) → ∀ e ∈ es, ∀ b, e.val = .slice (some ⟨b, 0, none⟩) 8 8 → b ≠ b0) : SInv l bs cp kb rb ob mb (fun c => bad c ∨ c = b0) H := by
  obtain ⟨es, c, e1, e2⟩ := h.m
  refine ⟨h.gg, h.k, h.r, h.o, ⟨es, c, e1, fun e he => ?_⟩, h.m0, h.kl, h.rl, h.ol, h.ml, h.row, fun c hc => ?_⟩
  · obtain ⟨j, b, u, ro, h1, h2, h3, h4, h5, h6⟩ := e2 e he
    exact ⟨j, b, u, ro, h1, h2, h3, h4, fun hc => hc.elim h5 (hn es c e1 e he b h2), h6⟩
  · rcases hc with hc | rfl
    · exact h.bl c hc
    · exact hb
theorem SInv.less {b0 : Nat} (h : SInv l bs cp kb rb ob mb (fun c => bad c ∨ c = b0) H) : SInv l bs cp kb rb ob mb bad H := by
  obtain ⟨es, c, e1, e2⟩ := h.m
  refine ⟨h.gg, h.k, h.r, h.o, ⟨es, c, e1, fun e he => ?_⟩, h.m0, h.kl, h.rl, h.ol, h.ml, h.row, fun c hc => h.bl c (.inl hc)⟩
  obtain ⟨j, b, u, ro, h1, h2, h3, h4, h5, h6⟩ := e2 e he
  exact ⟨j, b, u, ro, h1, h2, h3, h4, fun hc => h5 (.inl hc), h6⟩
theorem SInv.put {b0 : Nat} (h : SInv l bs cp kb rb ob mb (fun c => bad c ∨ c = b0) H) (hs : H'.size = H.size) (hm : H'.get mb = H.get mb) (hb : b0 ≠ kb ∧ b0 ≠ rb ∧ b0 ≠ ob ∧ b0 ≠ 0 ∧ ∀ b o sp, bs = some ⟨b, o, sp⟩ → b ≠ b0) (hg : ∀ c, c ≠ b0 → H'.get c = H.get c) : SInv l bs cp kb rb ob mb (fun c => bad c ∨ c = b0) H' := by
  obtain ⟨n1, n2, n3, n4, n5⟩ := hb
  refine ⟨⟨by rw [hs]; exact h.gg.1, ?_⟩, ?_, ?_, ?_, ?_, h.m0, by rw [hs]; exact h.kl, by rw [hs]; exact h.rl, by rw [hs]; exact h.ol, by rw [hs]; exact h.ml, ?_, fun c hc => by rw [hs]; exact h.bl c hc⟩
  · obtain ⟨u, ro, e⟩ := h.gg.2
    exact ⟨u, ro, (hg 0 n4.symm).trans e⟩
  · obtain ⟨u, ro, e⟩ := h.k
    exact ⟨u, ro, (hg kb n1.symm).trans e⟩
  · obtain ⟨u, ro, e⟩ := h.r
    exact ⟨u, ro, (hg rb n2.symm).trans e⟩
  · obtain ⟨u, ro, e⟩ := h.o
    exact ⟨u, ro, (hg ob n3.symm).trans e⟩
  · obtain ⟨es, c, e1, e2⟩ := h.m
    refine ⟨es, c, hm.trans e1, fun e he => ?_⟩
    obtain ⟨j, b, u, ro, q1, q2, q3, q4, q5, q6⟩ := e2 e he
    exact ⟨j, b, u, ro, q1, q2, by rw [hs]; exact q3, q4, q5, (hg b (fun h => q5 (.inr h))).trans q6⟩
  · rcases h.row with e | ⟨b, o, sp, bc, u, ro, rst, e1, e2, e3, e4, e5⟩
    · exact .inl e
    · exact .inr ⟨b, o, sp, bc, u, ro, rst, e1, by rw [hs]; exact e2, e3, (hg b (n5 b o sp e1)).trans e4, e5⟩
theorem take_getD {α : Type} {l : List α} {j n : Nat} {d : α} (h : j < n) : (l.take n).getD j d = l.getD j d := by
  rw [List.getD_eq_getElem?_getD, List.getD_eq_getElem?_getD, List.getElem?_take, if_pos h]
theorem get_load {H : Hp} {b : Nat} {v : Value} {u : UT} {ro : Bool} (h : H.get b = some (.cells [v] u ro)) : loadO H (pt b) = some v := by
  simp only [loadO, h]; rfl
theorem row_load {Hc : Hp} {b o n : Nat} {bc : List Value} {u : UT} {ro : Bool} {rst : List Value} {x : S55} (hget : Hc.get b = some (.cells bc u ro)) (hdr : bc.drop o = l.flatMap enc55 ++ rst) (hx : l[n]? = some x) :
    loadAO Hc 4 (.pointer (some ⟨b, o + ((n : Nat) : Int).toNat * 4, none⟩)) = some (.agg #[.string x.f0, .int .i64 x.f1, .int .i64 x.f2, .int .i64 x.f3]) := by
  have hlt := (List.getElem?_eq_some_iff.1 hx).1
  have h3 := enc_len l
  have h2 : ∀ i, i < 4 → (l.flatMap enc55)[n * 4 + i]? = (enc55 x)[i]? := fun i hi => by
    have := enc_get l n i hi
    rw [hx] at this
    exact this
  obtain ⟨v1, v2⟩ := drop_sub (off := n * 4) (n := 4) hdr (by rw [h3]; omega) (by decide)
  simp only [loadAO, hget, Int.toNat_natCast]
  rw [if_pos v1, v2]
  have h4 : ((l.flatMap enc55).drop (n * 4)).take 4 = enc55 x := by
    apply List.ext_getElem?
    intro i
    rw [List.getElem?_take]
    split
    · rename_i hi; rw [List.getElem?_drop]; exact h2 i hi
    · rw [List.getElem?_eq_none (by simp [enc55]; omega)]
  rw [h4]
  rfl
structure RS (mb : Nat) (H Hc : Hp) (M : Nat) (acc : List Int) (x : S55) : Prop where
  keep : KeepX mb H Hc
  lt : H.size ≤ M
  sz : M + 1 < Hc.size
  s : Hc.get M = some (.cells (ints acc) ⟨0, 3, true⟩ false)
  len : acc.length = 8
  vx : Hc.get (M + 1) = some (.cells (enc55 x) ⟨0, 55, true⟩ false)
  ne : mb < H.size
namespace RS
variable {H Hc Hd : Hp} {M : Nat} {acc : List Int} {x : S55}
theorem more (h : RS mb H Hc M acc x) (hk : KeepX mb Hc Hd) : RS mb H Hd M acc x := by
  have := h.sz
  have := h.lt
  have := h.ne
  exact ⟨h.keep.trans hk, h.lt, Nat.lt_of_lt_of_le h.sz hk.1, (hk.2 M (by omega) (by omega)).trans h.s, h.len, (hk.2 (M + 1) (by omega) (by omega)).trans h.vx, h.ne⟩
theorem lw (h : RS mb H Hc M acc x) : loadO Hc (.pointer (some ⟨M + 1, 0, none⟩)) = some (.string x.f0) := by simp only [loadO, h.vx]; rfl
theorem l1 (h : RS mb H Hc M acc x) : loadO Hc (.pointer (some ⟨M + 1, 1, none⟩)) = some (.int .i64 x.f1) := by simp only [loadO, h.vx]; rfl
theorem l2 (h : RS mb H Hc M acc x) : loadO Hc (.pointer (some ⟨M + 1, 2, none⟩)) = some (.int .i64 x.f2) := by simp only [loadO, h.vx]; rfl
theorem l3 (h : RS mb H Hc M acc x) : loadO Hc (.pointer (some ⟨M + 1, 3, none⟩)) = some (.int .i64 x.f3) := by simp only [loadO, h.vx]; rfl
theorem lo (h : RS mb H Hc M acc x) {j : Int} (h0 : 0 ≤ j) (h1 : j < 8) : loadO Hc (.pointer (some ⟨M, 0 + j.toNat * 1, none⟩)) = some (.int .i64 (rd acc j)) := by
  simp only [loadO, h.s, ints]
  have hlt : j.toNat < acc.length := by have := h.len; omega
  rw [Nat.zero_add, Nat.mul_one, List.getElem?_map, List.getElem?_eq_getElem hlt]
  simp [rd, hlt]
theorem st (h : RS mb H Hc M acc x) {j : Int} (h0 : 0 ≤ j) (h1 : j < 8) (v : Int) : ∃ Hd, storeO Hc 1 (.int .i64 v) (.pointer (some ⟨M, 0 + j.toNat * 1, none⟩)) = some Hd ∧ RS mb H Hd M (acc.set j.toNat v) x ∧ Hd.get mb = Hc.get mb ∧ Hd.size = Hc.size ∧ ∀ c, c ≠ M → Hd.get c = Hc.get c := by
  have hn := h.ne
  have hl := h.lt
  have hs : setL (ints acc) (0 + j.toNat * 1) [.int .i64 v] = ints (acc.set j.toNat v) := by
    rw [Nat.zero_add, Nat.mul_one]
    show List.set _ _ _ = _
    unfold ints
    rw [List.map_set]
  refine ⟨Hc.put M (.cells (ints (acc.set j.toNat v)) ⟨0, 3, true⟩ false), ?_, ⟨h.keep.put (.inl h.lt) _, h.lt, by rw [Hp.size_put]; exact h.sz, by rw [Hp.get_put, if_pos rfl], by rw [List.length_set]; exact h.len, by rw [Hp.get_put, if_neg (by omega)]; exact h.vx, h.ne⟩, by rw [Hp.get_put, if_neg (by omega)], by rw [Hp.size_put], fun c hc => by rw [Hp.get_put, if_neg (by omega)]⟩
  have hlen := h.len
  have hil : (ints acc).length = 8 := by unfold ints; rw [List.length_map]; exact hlen
  simp only [storeO, h.s]
  have hv : (Value.int .i64 v).cells = #[.int .i64 v] := rfl
  rw [if_pos (by refine ⟨?_, ?_, ?_, ?_⟩ <;> first | rfl | trivial | (simp; done) | (simp [Value.cells, isCell]; done) | (simp [hil]; omega)), hv, hs]
end RS
def S45 (l : List S55) (bs : Option Addr) (cp kb rb ob mb : Nat) (n : Nat) (bad : Nat → Prop) (H : Hp) : Prop :=
  ∃ b H' u ro, K 45 #[.int .i64 (n : Int), pt kb, pt rb, pt ob] H = some (.ret (.slice (some ⟨b, 0, none⟩) 8 8) H') ∧ KeepX mb H H' ∧ SInv l bs cp kb rb ob mb bad H' ∧ b < H'.size ∧ b ≠ mb ∧ ¬ bad b ∧ H'.get b = some (.cells (ints ((vecs l).getD n [])) u ro)
theorem fits_ok {es : List MapEntry} {n : Int} (h : ∀ e ∈ es, EntOK l mb bad H e) : fitsAll 0 (.int .i64 n) es = true := by
  unfold fitsAll
  simp only [keyIs, Bool.true_and, List.all_eq_true]
  intro e he
  obtain ⟨j, b, u, ro, h1, _⟩ := h e he
  rw [h1]
  rfl
theorem leaf_ok {out : List Int} (h : Rope l out) {j : Nat} {x : S55} (hx : l[j]? = some x) (h0 : x.f0.size ≠ 0) : checkS x.f0 = 0 := by
  obtain ⟨v, hs, _⟩ := h.node j x hx
  unfold stepL at hs
  rw [if_neg h0] at hs
  split at hs
  · rename_i hc
    exact hc.2.2.2.2
  · cases hs
theorem checkS_le {s : ByteArray} (h : checkS s = 0) : s.size ≤ 100000 := by
  unfold checkS at h
  split at h
  · assumption
  · cases h
theorem allLB_at {s : ByteArray} (h : checkS s = 0) {j : Nat} (hj : j < s.size) : isLB (bt s (j : Int)) = true := by
  have ha : allLB s = true := by
    unfold checkS at h
    split at h
    · split at h
      · assumption
      · cases h
    · cases h
  cases hb : isLB (bt s (j : Int)) with
  | true => rfl
  | false =>
    have := allLB_no hj hb
    rw [ha] at this
    cases this
theorem strB_at {s : ByteArray} {j : Nat} (hj : j < s.size) : (strB s)[j]? = some (.int .u8 (bt s (j : Int))) := by
  have h1 := bt_at s (j : Int) hj
  unfold strB
  rw [List.getElem?_map]
  have h2 : s.data.toList[j]? = some (s[j]'hj) := by rw [Array.getElem?_toList]; exact Array.getElem?_eq_getElem (xs := s.data) hj
  rw [h2, ← h1]
  rfl
theorem take_bytes {s : ByteArray} {j : Nat} (hj : j < s.size) : (bytesOf s).take (j + 1) = (bytesOf s).take j ++ [bt s (j : Int)] := by
  have hl : j < (bytesOf s).length := by rw [bytesOf_length]; exact hj
  rw [List.take_add_one, List.getElem?_eq_getElem hl]
  have := rd_bytesOf s (j : Int)
  unfold rd at this
  rw [Int.toNat_natCast, List.getD_eq_getElem?_getD, List.getElem?_eq_getElem hl] at this
  simp only [Option.getD_some] at this
  rw [this]
  rfl
theorem mem_modify {α : Type} {f : α → α} {a : α} {l : List α} {i : Nat} (h : a ∈ l.modify i f) : a ∈ l ∨ ∃ b, b ∈ l ∧ a = f b := by
  obtain ⟨k, hk⟩ := List.mem_iff_getElem?.1 h
  rw [List.getElem?_modify] at hk
  obtain ⟨b, hb, rfl⟩ := Option.map_eq_some_iff.1 hk
  have hm := List.mem_of_getElem? hb
  split
  · exact .inr ⟨b, hm, rfl⟩
  · exact .inl hm
theorem vecsF_spec : ∀ (rest : List S55) (done : List (List Int)), (vecsF done rest).length = done.length + rest.length ∧ (vecsF done rest).take done.length = done ∧ ∀ (j : Nat) (x : S55), rest[j]? = some x → (vecsF done rest)[done.length + j]? = some (vecOf ((vecsF done rest).take (done.length + j)) x) := by
  intro rest
  induction rest with
  | nil => intro done; exact ⟨by simp [vecsF], by simp [vecsF], fun j x h => by simp at h⟩
  | cons y r ih =>
    intro done
    obtain ⟨a, b, c⟩ := ih (done ++ [vecOf done y])
    rw [List.length_append, List.length_singleton] at a b c
    have b2 : (vecsF (done ++ [vecOf done y]) r).take done.length = done := by
      have := congrArg (List.take done.length) b
      rw [List.take_take, Nat.min_eq_left (by omega), List.take_left] at this
      exact this
    refine ⟨by simp only [vecsF, List.length_cons]; omega, b2, fun j x hx => ?_⟩
    simp only [vecsF]
    cases j with
    | zero =>
      simp only [List.getElem?_cons_zero, Option.some.injEq] at hx
      subst hx
      rw [Nat.add_zero, b2]
      have := congrArg (fun l => l[done.length]?) b
      simp only [List.getElem?_take] at this
      rw [if_pos (by omega)] at this
      rw [this]
      simp
    | succ j =>
      have := c j x (by simpa using hx)
      rw [show done.length + (j + 1) = done.length + 1 + j by omega]
      exact this
theorem vecs_len (l : List S55) : (vecs l).length = l.length := by
  have := (vecsF_spec l []).1
  simpa [vecs] using this
theorem vecs_at {l : List S55} {n : Nat} {x : S55} (hx : l[n]? = some x) : (vecs l).getD n [] = vecOf ((vecs l).take n) x := by
  have := (vecsF_spec l []).2.2 n x hx
  simp only [List.length_nil, Nat.zero_add] at this
  rw [List.getD_eq_getElem?_getD]
  show ((vecsF [] l)[n]?).getD [] = _
  rw [this]
  rfl
set_option maxHeartbeats 8000000 in
theorem K45 {out : List Int} (hl : Rope l out) : ∀ (n : Nat), n < l.length → ∀ (bad : Nat → Prop) (H : Hp), SInv l bs cp kb rb ob mb bad H → S45 l bs cp kb rb ob mb n bad H := by
  intro n
  induction n using Nat.strongRecOn with
  | _ n ih =>
  intro hn bad H hS
  obtain ⟨uk, rk, ek⟩ := hS.k
  have hk := get_load ek
  obtain ⟨es, cl, em, hes⟩ := hS.m
  have hfit := fits_ok (n := (n : Int)) hes
  cases hf : es.find? (fun e => sameK (.int .i64 (n : Int)) e.key) with
  | some e =>
    obtain ⟨j, b, u, ro, h1, h2, h3, h4, h5, h6⟩ := hes e (List.mem_of_find?_eq_some hf)
    have hj : j = n := by
      have := List.find?_some hf
      simp only [h1, sameK, beq_iff_eq] at this
      omega
    subst hj
    refine ⟨b, H, u, ro, K_call a45_eq (by simp [a45]) ?_, KeepX.refl _ _, hS, h3, h4, h5, h6⟩
    unfold a45
    have hne : ((none : Option Nat) = some 2) = False := by simp
    repeat' (first
        | refine W.seq ?_
        | refine W.wo ?_
        | refine WO.nil ?_
        | (apply WO.callv; (case e => (simp only [go_sem, Nat.reduceEqDiff, Nat.reduceAdd, reduceIte, hk, em, hfit, hf, h2, hne]; first | done | with_reducible rfl)); (case c => (simp only [go_sem, Nat.reduceEqDiff, Nat.reduceAdd, reduceIte, hk, em, hfit, hf, h2, hne]; first | done | with_reducible rfl)))
        | (apply WO.panicv; (case e => (simp only [go_sem, Nat.reduceEqDiff, Nat.reduceAdd, reduceIte, hk, em, hfit, hf, h2, hne]; first | done | with_reducible rfl)))
        | (apply WO.ok; (case e => (simp only [go_sem, Nat.reduceEqDiff, Nat.reduceAdd, reduceIte, hk, em, hfit, hf, h2, hne]; first | done | with_reducible rfl)))
        | (apply WO.guardT; (case hj => (simp only [go_sem, Nat.reduceEqDiff, Nat.reduceAdd, reduceIte, hk, em, hfit, hf, h2, hne]; first | done | with_reducible rfl)))
        | (apply WO.guardF; (case hj => (simp only [go_sem, Nat.reduceEqDiff, Nat.reduceAdd, reduceIte, hk, em, hfit, hf, h2, hne]; first | done | with_reducible rfl)))
        | (apply WO.guardU; (case hj => (simp only [go_sem, Nat.reduceEqDiff, Nat.reduceAdd, reduceIte, hk, em, hfit, hf, h2, hne]; first | done | with_reducible rfl)))
        | refine W.skip ?_
        | refine W.ret ?_
        | refine W.exit ?_
        | refine W.block ?_
        | (apply W.branch; (case e => (simp only [go_sem, Nat.reduceEqDiff, Nat.reduceAdd, reduceIte, hk, em, hfit, hf, h2, hne]; first | done | with_reducible rfl)))
        | refine WD.nil ?_
        | (apply WD.callv; (case e => (simp only [go_sem, Nat.reduceEqDiff, Nat.reduceAdd, reduceIte, hk, em, hfit, hf, h2, hne]; first | done | with_reducible rfl)); (case c => (simp only [go_sem, Nat.reduceEqDiff, Nat.reduceAdd, reduceIte, hk, em, hfit, hf, h2, hne]; first | done | with_reducible rfl)); (case hi => first | trivial | (simp only [nx_H]; done)); (case hc => rfl))
        | (apply WD.ok; (case e => (simp only [go_sem, Nat.reduceEqDiff, Nat.reduceAdd, reduceIte, hk, em, hfit, hf, h2, hne]; first | done | with_reducible rfl)); (case hi => first | trivial | (simp only [nx_H]; done)); (case hc => first | rfl | (simp only [eqV, beq_self_eq_true, Bool.and_self, Bool.or_true, Bool.and_true, Option.isSome_some]; done)))
        | (apply WD.guardT; (case hj => (simp only [go_sem, Nat.reduceEqDiff, Nat.reduceAdd, reduceIte, hk, em, hfit, hf, h2, hne]; first | done | with_reducible rfl)); (case hi => first | trivial | (simp only [nx_H]; done)))
        | (apply WD.guardF; (case hj => (simp only [go_sem, Nat.reduceEqDiff, Nat.reduceAdd, reduceIte, hk, em, hfit, hf, h2, hne]; first | done | with_reducible rfl)); (case hi => first | trivial | (simp only [nx_H]; done)))
        | (apply WD.guardU; (case hj => (simp only [go_sem, Nat.reduceEqDiff, Nat.reduceAdd, reduceIte, hk, em, hfit, hf, h2, hne]; first | done | with_reducible rfl)); (case hi => first | trivial | (simp only [nx_H]; done)))
        | with_reducible exact tf
        | with_reducible exact ft
        | intro _)
    exact leave0 (by (simp only [go_sem, Nat.reduceEqDiff, Nat.reduceAdd, reduceIte]; first | done | with_reducible rfl)) (res1 (by (simp only [go_sem, Nat.reduceEqDiff, Nat.reduceAdd, reduceIte]; first | done | with_reducible rfl)) (by intro c h; cases h)) (by (simp only [go_sem, Nat.reduceEqDiff, Nat.reduceAdd, reduceIte]; first | done | with_reducible rfl))
  | none =>
    obtain ⟨x, hx⟩ : ∃ x, l[n]? = some x := ⟨l[n], List.getElem?_eq_getElem hn⟩
    obtain ⟨v, hv, v1, v2, hnode⟩ := hl.is hx
    have hle := hl.le
    obtain ⟨ur, rr, er⟩ := hS.r
    obtain ⟨b0, o0, sp0, bc, u0, ro0, rst, hbs, hb0, hb0m, eb0, hdr⟩ := hS.row.resolve_left (by rintro rfl; simp at hn)
    obtain ⟨M, hM⟩ : ∃ M, H.size = M := ⟨_, rfl⟩
    have hml := hS.ml
    obtain ⟨H1, hH1⟩ : ∃ H1, H.new (.cells (List.replicate 8 (.int .i64 0)) ⟨0, 3, true⟩ false) = H1 := ⟨_, rfl⟩
    have hM1 : H1.size = M + 1 := by rw [← hH1, Hp.size_new, hM]
    obtain ⟨H2, hH2⟩ : ∃ H2, H1.new (.cells [.string ⟨#[]⟩, .int .i64 0, .int .i64 0, .int .i64 0] ⟨0, 55, true⟩ false) = H2 := ⟨_, rfl⟩
    have hM2 : H2.size = M + 2 := by rw [← hH2, Hp.size_new, hM1]
    obtain ⟨H3, hH3⟩ : ∃ H3, H2.put (M + 1) (.cells (enc55 x) ⟨0, 55, true⟩ false) = H3 := ⟨_, rfl⟩
    have hM3 : H3.size = M + 2 := by rw [← hH3, Hp.size_put, hM2]
    obtain ⟨H4, hH4⟩ : ∃ H4, H3.new (.cells (strB x.f0) ⟨1, 5, false⟩ false) = H4 := ⟨_, rfl⟩
    have k1 : KeepX mb H H1 := by rw [← hH1]; exact KeepX.new _ _ _
    have k3 : KeepX mb H H3 := by rw [← hH3, ← hH2, ← hH1]; exact ((KeepX.new _ _ _).trans (KeepX.new _ _ _)).put (by omega) _
    have k4 : KeepX mb H H4 := by rw [← hH4]; exact k3.trans (KeepX.new _ _ _)
    have hapart : M ≠ kb ∧ M ≠ rb ∧ M ≠ ob ∧ M ≠ 0 ∧ ∀ b o sp, bs = some ⟨b, o, sp⟩ → b ≠ M := by
      have q1 := hS.kl.1
      have q2 := hS.rl.1
      have q3 := hS.ol.1
      have q4 := hS.gg.1
      refine ⟨by omega, by omega, by omega, by omega, fun b o sp h => ?_⟩
      rw [hbs] at h
      cases h
      omega
    have hld := row_load (hget := (k1.2 b0 hb0 hb0m).trans eb0) hdr hx
    have hr1 := get_load ((k1.2 rb hS.rl.1 hS.rl.2).trans er)
    have hst2 : storeO H2 4 (.agg #[.string x.f0, .int .i64 x.f1, .int .i64 x.f2, .int .i64 x.f3]) (.pointer (some ⟨M + 1, 0, none⟩)) = some H3 := by
      rw [← hH3]
      simp only [storeO, ← hH2, Hp.get_new, hM1]
      simp [Value.cells, isCell, setL, enc55]
    have m3 : H3.get mb = H.get mb := by
      rw [← hH3, ← hH2, ← hH1]
      simp only [Hp.get_put, Hp.get_new, Hp.size_new, hM]
      rw [if_neg (by omega), if_neg (by omega), if_neg (by omega)]
    have m4 : H4.get mb = H.get mb := by
      rw [← hH4, Hp.get_new, if_neg (by omega)]; exact m3
    have R3 : RS mb H H3 M (List.replicate 8 0) x := by
      refine ⟨k3, by omega, by rw [hM3]; omega, ?_, by simp, ?_, by omega⟩
      · rw [← hH3, ← hH2, ← hH1]
        simp only [Hp.get_put, Hp.get_new, Hp.size_new, hM]
        rw [if_neg (by omega), if_neg (by omega)]
        simp [ints]
      · rw [← hH3]
        simp only [Hp.get_put, if_true]
    have R4 : RS mb H H4 M (List.replicate 8 0) x := R3.more (by rw [← hH4]; exact KeepX.new _ _ _)
    have b4 : H4.get (M + 2) = some (.cells (strB x.f0) ⟨1, 5, false⟩ false) := by
      rw [← hH4]
      simp only [Hp.get_new, hM3]
      simp
    have hcap : (0 ≤ (8 : Int) ∧ (8 : Int) ≤ 8 ∧ (8 : Int) * ((8 : Nat) : Int) ≤ 140737488355328 ∧ (8 : Int) ≤ 140737488355328) = True := by simp
    have hbc : (bCells #[.int .i64 0] ((8 : Int).toNat * 1)).toList = List.replicate 8 (.int .i64 0) := bCells_int 8
    have hixn : (0 ≤ (n : Int) ∧ (n : Int) < ((l.length : Nat) : Int)) = True := by simp; omega
    have hq0 := R3.lw
    have hr1' : loadO H1 (pt rb) = some (.slice (some ⟨b0, o0, sp0⟩) l.length cp) := by rw [hr1, hbs]
    suffices hW : W K a45.body { t := enterT 0 #[.int .i64 (n : Int), pt kb, pt rb, pt ob].toList .nil, H, ds := [], df := false, pm := none } fun ex st => ex = .ret ∧ st.ds = [] ∧ ∃ b u ro, st.get 5 = .slice (some ⟨b, 0, none⟩) 8 8 ∧ KeepX mb H st.H ∧ SInv l bs cp kb rb ob mb bad st.H ∧ b < st.H.size ∧ b ≠ mb ∧ ¬ bad b ∧ st.H.get b = some (.cells (ints ((vecs l).getD n [])) u ro) by
      have h' := hW
      unfold W at h'
      obtain ⟨q, ex, st, h1, rfl, h2, b, u, ro, h3, h4, h5, h6, h7, h8, h9⟩ := h'
      refine ⟨b, st.H, u, ro, K_call a45_eq (by simp [a45]) ?_, h4, h5, h6, h7, h8, h9⟩
      unfold W
      exact ⟨q, .ret, st, h1, leave0 h2 (res1 h3 (by intro c h; cases h)) rfl⟩
    have fin : ∀ (st : St) (es' : List MapEntry) (cl' : Nat), RS mb H st.H M ((vecs l).getD n []) x → st.H.get mb = some (.map es' cl') → (∀ e ∈ es', EntOK l mb bad st.H e) → st.get 0 = .int .i64 (n : Int) → st.get 1 = pt kb → st.get 7 = .slice (some ⟨M, 0, none⟩) 8 8 → st.ds = [] →
        WO K [⟨(some 88), (.load (.tmp 1)), none⟩, ⟨(some 89), (.mv (.tmp 0)), none⟩, ⟨(some 90), (.mv (.tmp 7)), none⟩, ⟨none, (.mapUpd 0 (.tmp 88) (.tmp 89) (.tmp 90)), none⟩] st
          (fun ex s1 => match ex with
            | .normal => W K (.seq (.ops [⟨(some 91), (.mv (.tmp 7)), none⟩, ⟨(some 5), (.mv (.tmp 91)), none⟩]) .ret) s1 fun ex st => ex = .ret ∧ st.ds = [] ∧ ∃ b u ro, st.get 5 = .slice (some ⟨b, 0, none⟩) 8 8 ∧ KeepX mb H st.H ∧ SInv l bs cp kb rb ob mb bad st.H ∧ b < st.H.size ∧ b ≠ mb ∧ ¬ bad b ∧ st.H.get b = some (.cells (ints ((vecs l).getD n [])) u ro)
            | e => (fun ex st => ex = .ret ∧ st.ds = [] ∧ ∃ b u ro, st.get 5 = .slice (some ⟨b, 0, none⟩) 8 8 ∧ KeepX mb H st.H ∧ SInv l bs cp kb rb ob mb bad st.H ∧ b < st.H.size ∧ b ≠ mb ∧ ¬ bad b ∧ st.H.get b = some (.cells (ints ((vecs l).getD n [])) u ro)) e s1) := by
      intro st es' cl' gR gm ge g0 g1 g7 gd
      have hk' : loadO st.H (pt kb) = some (.map (some mb)) := get_load ((gR.keep.2 kb hS.kl.1 hS.kl.2).trans ek)
      have hfit' := fits_ok (n := (n : Int)) ge
      have hMs : M < st.H.size := by have := gR.sz; omega
      have hbM : ¬ bad M := fun h => by have := hS.bl M h; omega
      have done : ∀ H', KeepX mb st.H H' → (∃ es c, H'.get mb = some (.map es c) ∧ ∀ e ∈ es, EntOK l mb bad H' e) → KeepX mb H H' ∧ SInv l bs cp kb rb ob mb bad H' ∧ M < H'.size ∧ M ≠ mb ∧ ¬ bad M ∧ H'.get M = some (.cells (ints ((vecs l).getD n [])) ⟨0, 3, true⟩ false) := fun H' k hm =>
        ⟨gR.keep.trans k, hS.keep (gR.keep.trans k) hm, Nat.lt_of_lt_of_le hMs k.1, by omega, hbM, (k.2 M hMs (by omega)).trans gR.s⟩
      have hnew : ∀ H', KeepX mb st.H H' → ∀ e : MapEntry, e.key = .int .i64 (n : Int) → e.val = .slice (some ⟨M, 0, none⟩) 8 8 → EntOK l mb bad H' e := fun H' k e e1 e2 =>
        ⟨n, M, _, _, e1, e2, Nat.lt_of_lt_of_le hMs k.1, by omega, hbM, (k.2 M hMs (by omega)).trans gR.s⟩
      cases hfi : es'.findIdx? (fun e => sameK (.int .i64 (n : Int)) e.key) with
      | none =>
        obtain ⟨H', hH'⟩ : ∃ H', st.H.put mb (.map (es' ++ [{ key := .int .i64 (n : Int), val := .slice (some ⟨M, 0, none⟩) 8 8, born := cl' }]) (cl' + 1)) = H' := ⟨_, rfl⟩
        have k' : KeepX mb st.H H' := by rw [← hH']; exact (KeepX.refl _ _).put (.inr rfl) _
        repeat' (first
            | refine W.seq ?_
            | refine W.wo ?_
            | refine WO.nil ?_
            | (apply WO.callv; (case e => (simp only [go_sem, Nat.reduceEqDiff, Nat.reduceAdd, reduceIte, hk', gm, hfit', hfi, g0, g1, g7, hH']; first | done | with_reducible rfl)); (case c => (simp only [go_sem, Nat.reduceEqDiff, Nat.reduceAdd, reduceIte, hk', gm, hfit', hfi, g0, g1, g7, hH']; first | done | with_reducible rfl)))
            | (apply WO.panicv; (case e => (simp only [go_sem, Nat.reduceEqDiff, Nat.reduceAdd, reduceIte, hk', gm, hfit', hfi, g0, g1, g7, hH']; first | done | with_reducible rfl)))
            | (apply WO.ok; (case e => (simp only [go_sem, Nat.reduceEqDiff, Nat.reduceAdd, reduceIte, hk', gm, hfit', hfi, g0, g1, g7, hH']; first | done | with_reducible rfl)))
            | (apply WO.guardT; (case hj => (simp only [go_sem, Nat.reduceEqDiff, Nat.reduceAdd, reduceIte, hk', gm, hfit', hfi, g0, g1, g7, hH']; first | done | with_reducible rfl)))
            | (apply WO.guardF; (case hj => (simp only [go_sem, Nat.reduceEqDiff, Nat.reduceAdd, reduceIte, hk', gm, hfit', hfi, g0, g1, g7, hH']; first | done | with_reducible rfl)))
            | (apply WO.guardU; (case hj => (simp only [go_sem, Nat.reduceEqDiff, Nat.reduceAdd, reduceIte, hk', gm, hfit', hfi, g0, g1, g7, hH']; first | done | with_reducible rfl)))
            | refine W.skip ?_
            | refine W.ret ?_
            | refine W.exit ?_
            | refine W.block ?_
            | (apply W.branch; (case e => (simp only [go_sem, Nat.reduceEqDiff, Nat.reduceAdd, reduceIte, hk', gm, hfit', hfi, g0, g1, g7, hH']; first | done | with_reducible rfl)))
            | refine WD.nil ?_
            | (apply WD.callv; (case e => (simp only [go_sem, Nat.reduceEqDiff, Nat.reduceAdd, reduceIte, hk', gm, hfit', hfi, g0, g1, g7, hH']; first | done | with_reducible rfl)); (case c => (simp only [go_sem, Nat.reduceEqDiff, Nat.reduceAdd, reduceIte, hk', gm, hfit', hfi, g0, g1, g7, hH']; first | done | with_reducible rfl)); (case hi => first | trivial | (simp only [nx_H]; done)); (case hc => rfl))
            | (apply WD.ok; (case e => (simp only [go_sem, Nat.reduceEqDiff, Nat.reduceAdd, reduceIte, hk', gm, hfit', hfi, g0, g1, g7, hH']; first | done | with_reducible rfl)); (case hi => first | trivial | (simp only [nx_H]; done)); (case hc => first | rfl | (simp only [eqV, beq_self_eq_true, Bool.and_self, Bool.or_true, Bool.and_true, Option.isSome_some]; done)))
            | (apply WD.guardT; (case hj => (simp only [go_sem, Nat.reduceEqDiff, Nat.reduceAdd, reduceIte, hk', gm, hfit', hfi, g0, g1, g7, hH']; first | done | with_reducible rfl)); (case hi => first | trivial | (simp only [nx_H]; done)))
            | (apply WD.guardF; (case hj => (simp only [go_sem, Nat.reduceEqDiff, Nat.reduceAdd, reduceIte, hk', gm, hfit', hfi, g0, g1, g7, hH']; first | done | with_reducible rfl)); (case hi => first | trivial | (simp only [nx_H]; done)))
            | (apply WD.guardU; (case hj => (simp only [go_sem, Nat.reduceEqDiff, Nat.reduceAdd, reduceIte, hk', gm, hfit', hfi, g0, g1, g7, hH']; first | done | with_reducible rfl)); (case hi => first | trivial | (simp only [nx_H]; done)))
            | with_reducible exact tf
            | with_reducible exact ft
            | intro _)
        obtain ⟨d1, d2, d3, d4, d5, d6⟩ := done H' k' ⟨_, _, by rw [← hH', Hp.get_put, if_pos rfl], fun e he => by
          rcases List.mem_append.1 he with he | he
          · exact (ge e he).keep k'
          · rw [List.mem_singleton.1 he]; exact hnew H' k' _ rfl rfl⟩
        exact ⟨rfl, by (simp only [go_sem, Nat.reduceEqDiff, Nat.reduceAdd, reduceIte, gd]; first | done | with_reducible rfl), M, _, _, by (simp only [go_sem, Nat.reduceEqDiff, Nat.reduceAdd, reduceIte, g7]; first | done | with_reducible rfl), by simp only [nx_H]; exact d1, by simp only [nx_H]; exact d2, by simp only [nx_H]; exact d3, d4, d5, by simp only [nx_H]; exact d6⟩
      | some i =>
        obtain ⟨H', hH'⟩ : ∃ H', st.H.put mb (.map (es'.modify i fun e => { e with key := .int .i64 (n : Int), val := .slice (some ⟨M, 0, none⟩) 8 8 }) cl') = H' := ⟨_, rfl⟩
        have k' : KeepX mb st.H H' := by rw [← hH']; exact (KeepX.refl _ _).put (.inr rfl) _
        repeat' (first
            | refine W.seq ?_
            | refine W.wo ?_
            | refine WO.nil ?_
            | (apply WO.callv; (case e => (simp only [go_sem, Nat.reduceEqDiff, Nat.reduceAdd, reduceIte, hk', gm, hfit', hfi, g0, g1, g7, hH']; first | done | with_reducible rfl)); (case c => (simp only [go_sem, Nat.reduceEqDiff, Nat.reduceAdd, reduceIte, hk', gm, hfit', hfi, g0, g1, g7, hH']; first | done | with_reducible rfl)))
            | (apply WO.panicv; (case e => (simp only [go_sem, Nat.reduceEqDiff, Nat.reduceAdd, reduceIte, hk', gm, hfit', hfi, g0, g1, g7, hH']; first | done | with_reducible rfl)))
            | (apply WO.ok; (case e => (simp only [go_sem, Nat.reduceEqDiff, Nat.reduceAdd, reduceIte, hk', gm, hfit', hfi, g0, g1, g7, hH']; first | done | with_reducible rfl)))
            | (apply WO.guardT; (case hj => (simp only [go_sem, Nat.reduceEqDiff, Nat.reduceAdd, reduceIte, hk', gm, hfit', hfi, g0, g1, g7, hH']; first | done | with_reducible rfl)))
            | (apply WO.guardF; (case hj => (simp only [go_sem, Nat.reduceEqDiff, Nat.reduceAdd, reduceIte, hk', gm, hfit', hfi, g0, g1, g7, hH']; first | done | with_reducible rfl)))
            | (apply WO.guardU; (case hj => (simp only [go_sem, Nat.reduceEqDiff, Nat.reduceAdd, reduceIte, hk', gm, hfit', hfi, g0, g1, g7, hH']; first | done | with_reducible rfl)))
            | refine W.skip ?_
            | refine W.ret ?_
            | refine W.exit ?_
            | refine W.block ?_
            | (apply W.branch; (case e => (simp only [go_sem, Nat.reduceEqDiff, Nat.reduceAdd, reduceIte, hk', gm, hfit', hfi, g0, g1, g7, hH']; first | done | with_reducible rfl)))
            | refine WD.nil ?_
            | (apply WD.callv; (case e => (simp only [go_sem, Nat.reduceEqDiff, Nat.reduceAdd, reduceIte, hk', gm, hfit', hfi, g0, g1, g7, hH']; first | done | with_reducible rfl)); (case c => (simp only [go_sem, Nat.reduceEqDiff, Nat.reduceAdd, reduceIte, hk', gm, hfit', hfi, g0, g1, g7, hH']; first | done | with_reducible rfl)); (case hi => first | trivial | (simp only [nx_H]; done)); (case hc => rfl))
            | (apply WD.ok; (case e => (simp only [go_sem, Nat.reduceEqDiff, Nat.reduceAdd, reduceIte, hk', gm, hfit', hfi, g0, g1, g7, hH']; first | done | with_reducible rfl)); (case hi => first | trivial | (simp only [nx_H]; done)); (case hc => first | rfl | (simp only [eqV, beq_self_eq_true, Bool.and_self, Bool.or_true, Bool.and_true, Option.isSome_some]; done)))
            | (apply WD.guardT; (case hj => (simp only [go_sem, Nat.reduceEqDiff, Nat.reduceAdd, reduceIte, hk', gm, hfit', hfi, g0, g1, g7, hH']; first | done | with_reducible rfl)); (case hi => first | trivial | (simp only [nx_H]; done)))
            | (apply WD.guardF; (case hj => (simp only [go_sem, Nat.reduceEqDiff, Nat.reduceAdd, reduceIte, hk', gm, hfit', hfi, g0, g1, g7, hH']; first | done | with_reducible rfl)); (case hi => first | trivial | (simp only [nx_H]; done)))
            | (apply WD.guardU; (case hj => (simp only [go_sem, Nat.reduceEqDiff, Nat.reduceAdd, reduceIte, hk', gm, hfit', hfi, g0, g1, g7, hH']; first | done | with_reducible rfl)); (case hi => first | trivial | (simp only [nx_H]; done)))
            | with_reducible exact tf
            | with_reducible exact ft
            | intro _)
        obtain ⟨d1, d2, d3, d4, d5, d6⟩ := done H' k' ⟨_, _, by rw [← hH', Hp.get_put, if_pos rfl], fun e he => by
          rcases mem_modify he with he | ⟨e0, _, rfl⟩
          · exact (ge e he).keep k'
          · exact hnew H' k' _ rfl rfl⟩
        exact ⟨rfl, by (simp only [go_sem, Nat.reduceEqDiff, Nat.reduceAdd, reduceIte, gd]; first | done | with_reducible rfl), M, _, _, by (simp only [go_sem, Nat.reduceEqDiff, Nat.reduceAdd, reduceIte, g7]; first | done | with_reducible rfl), by simp only [nx_H]; exact d1, by simp only [nx_H]; exact d2, by simp only [nx_H]; exact d3, d4, d5, by simp only [nx_H]; exact d6⟩
    unfold a45
    repeat' (first
        | refine W.seq ?_
        | refine W.wo ?_
        | refine WO.nil ?_
        | (apply WO.callv; (case e => (simp only [go_sem, Nat.reduceEqDiff, Nat.reduceAdd, reduceIte, hk, em, hfit, hf, hcap, hbc, hM, hH1, hM1, hH2, hr1', hixn, hld, hst2, hq0, hM3, hH4]; first | done | with_reducible rfl)); (case c => (simp only [go_sem, Nat.reduceEqDiff, Nat.reduceAdd, reduceIte, hk, em, hfit, hf, hcap, hbc, hM, hH1, hM1, hH2, hr1', hixn, hld, hst2, hq0, hM3, hH4]; first | done | with_reducible rfl)))
        | (apply WO.panicv; (case e => (simp only [go_sem, Nat.reduceEqDiff, Nat.reduceAdd, reduceIte, hk, em, hfit, hf, hcap, hbc, hM, hH1, hM1, hH2, hr1', hixn, hld, hst2, hq0, hM3, hH4]; first | done | with_reducible rfl)))
        | (apply WO.ok; (case e => (simp only [go_sem, Nat.reduceEqDiff, Nat.reduceAdd, reduceIte, hk, em, hfit, hf, hcap, hbc, hM, hH1, hM1, hH2, hr1', hixn, hld, hst2, hq0, hM3, hH4]; first | done | with_reducible rfl)))
        | (apply WO.guardT; (case hj => (simp only [go_sem, Nat.reduceEqDiff, Nat.reduceAdd, reduceIte, hk, em, hfit, hf, hcap, hbc, hM, hH1, hM1, hH2, hr1', hixn, hld, hst2, hq0, hM3, hH4]; first | done | with_reducible rfl)))
        | (apply WO.guardF; (case hj => (simp only [go_sem, Nat.reduceEqDiff, Nat.reduceAdd, reduceIte, hk, em, hfit, hf, hcap, hbc, hM, hH1, hM1, hH2, hr1', hixn, hld, hst2, hq0, hM3, hH4]; first | done | with_reducible rfl)))
        | (apply WO.guardU; (case hj => (simp only [go_sem, Nat.reduceEqDiff, Nat.reduceAdd, reduceIte, hk, em, hfit, hf, hcap, hbc, hM, hH1, hM1, hH2, hr1', hixn, hld, hst2, hq0, hM3, hH4]; first | done | with_reducible rfl)))
        | refine W.skip ?_
        | refine W.ret ?_
        | refine W.exit ?_
        | refine W.block ?_
        | (apply W.branch; (case e => (simp only [go_sem, Nat.reduceEqDiff, Nat.reduceAdd, reduceIte, hk, em, hfit, hf, hcap, hbc, hM, hH1, hM1, hH2, hr1', hixn, hld, hst2, hq0, hM3, hH4]; first | done | with_reducible rfl)))
        | refine WD.nil ?_
        | (apply WD.callv; (case e => (simp only [go_sem, Nat.reduceEqDiff, Nat.reduceAdd, reduceIte, hk, em, hfit, hf, hcap, hbc, hM, hH1, hM1, hH2, hr1', hixn, hld, hst2, hq0, hM3, hH4]; first | done | with_reducible rfl)); (case c => (simp only [go_sem, Nat.reduceEqDiff, Nat.reduceAdd, reduceIte, hk, em, hfit, hf, hcap, hbc, hM, hH1, hM1, hH2, hr1', hixn, hld, hst2, hq0, hM3, hH4]; first | done | with_reducible rfl)); (case hi => first | trivial | (simp only [nx_H]; done)); (case hc => rfl))
        | (apply WD.ok; (case e => (simp only [go_sem, Nat.reduceEqDiff, Nat.reduceAdd, reduceIte, hk, em, hfit, hf, hcap, hbc, hM, hH1, hM1, hH2, hr1', hixn, hld, hst2, hq0, hM3, hH4]; first | done | with_reducible rfl)); (case hi => first | trivial | (simp only [nx_H]; done)); (case hc => first | rfl | (simp only [eqV, beq_self_eq_true, Bool.and_self, Bool.or_true, Bool.and_true, Option.isSome_some]; done)))
        | (apply WD.guardT; (case hj => (simp only [go_sem, Nat.reduceEqDiff, Nat.reduceAdd, reduceIte, hk, em, hfit, hf, hcap, hbc, hM, hH1, hM1, hH2, hr1', hixn, hld, hst2, hq0, hM3, hH4]; first | done | with_reducible rfl)); (case hi => first | trivial | (simp only [nx_H]; done)))
        | (apply WD.guardF; (case hj => (simp only [go_sem, Nat.reduceEqDiff, Nat.reduceAdd, reduceIte, hk, em, hfit, hf, hcap, hbc, hM, hH1, hM1, hH2, hr1', hixn, hld, hst2, hq0, hM3, hH4]; first | done | with_reducible rfl)); (case hi => first | trivial | (simp only [nx_H]; done)))
        | (apply WD.guardU; (case hj => (simp only [go_sem, Nat.reduceEqDiff, Nat.reduceAdd, reduceIte, hk, em, hfit, hf, hcap, hbc, hM, hH1, hM1, hH2, hr1', hixn, hld, hst2, hq0, hM3, hH4]; first | done | with_reducible rfl)); (case hi => first | trivial | (simp only [nx_H]; done)))
        | with_reducible exact tf
        | with_reducible exact ft
        | intro _)
    have hg0 := hS.gg
    refine W.loop (fun m st => ∃ j : Nat, j ≤ x.f0.size ∧ m = x.f0.size - j ∧ st.get 29 = .int .i64 (j : Int) ∧ st.get 28 = .int .i64 x.f0.size ∧ st.get 27 = .slice (some ⟨M + 2, 0, none⟩) x.f0.size x.f0.size ∧ st.get 7 = .slice (some ⟨M, 0, none⟩) 8 8 ∧ st.get 8 = .pointer (some ⟨M + 1, 0, none⟩) ∧ st.get 0 = .int .i64 (n : Int) ∧ st.get 1 = pt kb ∧ st.get 2 = pt rb ∧ st.get 3 = pt ob ∧ st.ds = [] ∧
      RS mb H st.H M (((bytesOf x.f0).take j).foldl addL (List.replicate 8 0)) x ∧ st.H.get (M + 2) = some (.cells (strB x.f0) ⟨1, 5, false⟩ false) ∧ st.H.get mb = H.get mb ∧ M + 2 < st.H.size) x.f0.size ⟨0, Nat.zero_le _, rfl, by (simp only [go_sem, Nat.reduceEqDiff, Nat.reduceAdd, reduceIte]; first | done | rfl), by (simp only [go_sem, Nat.reduceEqDiff, Nat.reduceAdd, reduceIte]; first | done | with_reducible rfl), by (simp only [go_sem, Nat.reduceEqDiff, Nat.reduceAdd, reduceIte, hM3]; first | done | with_reducible rfl), by (simp only [go_sem, Nat.reduceEqDiff, Nat.reduceAdd, reduceIte, hM]; first | done | rfl), by (simp only [go_sem, Nat.reduceEqDiff, Nat.reduceAdd, reduceIte, hM1]; first | done | with_reducible rfl), by (simp only [go_sem, Nat.reduceEqDiff, Nat.reduceAdd, reduceIte]; first | done | with_reducible rfl), by (simp only [go_sem, Nat.reduceEqDiff, Nat.reduceAdd, reduceIte]; first | done | with_reducible rfl), by (simp only [go_sem, Nat.reduceEqDiff, Nat.reduceAdd, reduceIte]; first | done | with_reducible rfl), by (simp only [go_sem, Nat.reduceEqDiff, Nat.reduceAdd, reduceIte]; first | done | with_reducible rfl), by (simp only [go_sem, Nat.reduceEqDiff, Nat.reduceAdd, reduceIte]; first | done | with_reducible rfl), ?_, ?_, ?_, ?_⟩ ?_
    · simp only [nx_H]; exact R4
    · simp only [nx_H]; exact b4
    · simp only [nx_H]; exact m4
    · simp only [nx_H]; rw [← hH4, Hp.size_new, hM3]; omega
    rintro m st ⟨j, hj, rfl, g29, g28, g27, g7, g8, g0, g1, g2, g3, gd, gR, gb, gm, gs⟩
    by_cases hjs : j = x.f0.size
    · have hc : decide ((j : Int) < (x.f0.size : Int)) = false := by simp; omega
      subst hjs
      have hall : (bytesOf x.f0).take x.f0.size = bytesOf x.f0 := List.take_of_length_le (by rw [bytesOf_length]; omega)
      rw [hall] at gR
      have hw0 := gR.lw
      have he := str_empty x.f0
      by_cases z0 : x.f0.size = 0
      · have e0 : (x.f0.toList == (⟨#[]⟩ : ByteArray).toList) = true := by rw [he]; simp [z0]
        obtain ⟨uo, ro, eo⟩ := hS.o
        have ho := get_load ((gR.keep.2 ob hS.ol.1 hS.ol.2).trans eo)
        have hS1 : SInv l bs cp kb rb ob mb (fun c => bad c ∨ c = M) st.H := by
          refine (hS.keepM gR.keep gm).more (by omega) fun es1 c1 e1 e he b hb => ?_
          rw [gm, em] at e1
          cases e1
          obtain ⟨j, b', u', ro', q1, q2, q3, q4, q5, q6⟩ := hes e he
          rw [q2] at hb
          simp only [Value.slice.injEq, Option.some.injEq, Addr.mk.injEq, and_true] at hb
          omega
        have hf1 : 0 ≤ x.f1 ∧ x.f1 < n := by
          cases hnode with
          | leaf h _ => exact absurd z0 h
          | times _ _ a b _ _ => exact ⟨a, b⟩
          | pair _ _ a b _ _ _ => exact ⟨a, b⟩
        obtain ⟨m1, hm1⟩ : ∃ m1 : Nat, x.f1 = (m1 : Int) := ⟨x.f1.toNat, (Int.toNat_of_nonneg hf1.1).symm⟩
        have hl1 := gR.l1
        obtain ⟨ba, Ha, ua, roa, hcall, ka, hSa, hba, hbam, hbad, hga⟩ := ih m1 (by omega) (by omega) _ _ hS1
        rw [← hm1] at hcall
        have hbaM : ba ≠ M := fun h => hbad (.inr h)
        have RA := gR.more ka
        repeat' (first
            | refine W.seq ?_
            | refine W.wo ?_
            | refine WO.nil ?_
            | (apply WO.callv; (case e => (simp only [go_sem, Nat.reduceEqDiff, Nat.reduceAdd, reduceIte, g29, g28, hc, g8, hw0, e0, g3, ho, hl1, hcall, g7]; first | done | with_reducible rfl)); (case c => (simp only [go_sem, Nat.reduceEqDiff, Nat.reduceAdd, reduceIte, g29, g28, hc, g8, hw0, e0, g3, ho, hl1, hcall, g7]; first | done | with_reducible rfl)))
            | (apply WO.panicv; (case e => (simp only [go_sem, Nat.reduceEqDiff, Nat.reduceAdd, reduceIte, g29, g28, hc, g8, hw0, e0, g3, ho, hl1, hcall, g7]; first | done | with_reducible rfl)))
            | (apply WO.ok; (case e => (simp only [go_sem, Nat.reduceEqDiff, Nat.reduceAdd, reduceIte, g29, g28, hc, g8, hw0, e0, g3, ho, hl1, hcall, g7]; first | done | with_reducible rfl)))
            | (apply WO.guardT; (case hj => (simp only [go_sem, Nat.reduceEqDiff, Nat.reduceAdd, reduceIte, g29, g28, hc, g8, hw0, e0, g3, ho, hl1, hcall, g7]; first | done | with_reducible rfl)))
            | (apply WO.guardF; (case hj => (simp only [go_sem, Nat.reduceEqDiff, Nat.reduceAdd, reduceIte, g29, g28, hc, g8, hw0, e0, g3, ho, hl1, hcall, g7]; first | done | with_reducible rfl)))
            | (apply WO.guardU; (case hj => (simp only [go_sem, Nat.reduceEqDiff, Nat.reduceAdd, reduceIte, g29, g28, hc, g8, hw0, e0, g3, ho, hl1, hcall, g7]; first | done | with_reducible rfl)))
            | refine W.skip ?_
            | refine W.ret ?_
            | refine W.exit ?_
            | refine W.block ?_
            | (apply W.branch; (case e => (simp only [go_sem, Nat.reduceEqDiff, Nat.reduceAdd, reduceIte, g29, g28, hc, g8, hw0, e0, g3, ho, hl1, hcall, g7]; first | done | with_reducible rfl)))
            | refine WD.nil ?_
            | (apply WD.callv; (case e => (simp only [go_sem, Nat.reduceEqDiff, Nat.reduceAdd, reduceIte, g29, g28, hc, g8, hw0, e0, g3, ho, hl1, hcall, g7]; first | done | with_reducible rfl)); (case c => (simp only [go_sem, Nat.reduceEqDiff, Nat.reduceAdd, reduceIte, g29, g28, hc, g8, hw0, e0, g3, ho, hl1, hcall, g7]; first | done | with_reducible rfl)); (case hi => first | trivial | (simp only [nx_H]; done)); (case hc => rfl))
            | (apply WD.ok; (case e => (simp only [go_sem, Nat.reduceEqDiff, Nat.reduceAdd, reduceIte, g29, g28, hc, g8, hw0, e0, g3, ho, hl1, hcall, g7]; first | done | with_reducible rfl)); (case hi => first | trivial | (simp only [nx_H]; done)); (case hc => first | rfl | (simp only [eqV, beq_self_eq_true, Bool.and_self, Bool.or_true, Bool.and_true, Option.isSome_some]; done)))
            | (apply WD.guardT; (case hj => (simp only [go_sem, Nat.reduceEqDiff, Nat.reduceAdd, reduceIte, g29, g28, hc, g8, hw0, e0, g3, ho, hl1, hcall, g7]; first | done | with_reducible rfl)); (case hi => first | trivial | (simp only [nx_H]; done)))
            | (apply WD.guardF; (case hj => (simp only [go_sem, Nat.reduceEqDiff, Nat.reduceAdd, reduceIte, g29, g28, hc, g8, hw0, e0, g3, ho, hl1, hcall, g7]; first | done | with_reducible rfl)); (case hi => first | trivial | (simp only [nx_H]; done)))
            | (apply WD.guardU; (case hj => (simp only [go_sem, Nat.reduceEqDiff, Nat.reduceAdd, reduceIte, g29, g28, hc, g8, hw0, e0, g3, ho, hl1, hcall, g7]; first | done | with_reducible rfl)); (case hi => first | trivial | (simp only [nx_H]; done)))
            | with_reducible exact tf
            | with_reducible exact ft
            | intro _)
        obtain ⟨va, hva⟩ : ∃ va, (vecs l).getD m1 [] = va := ⟨_, rfl⟩
        rw [hva] at hga
        have hval : va.length = 8 := by
          rw [← hva]
          have hm1l : m1 < l.length := by omega
          rw [vecs_at (List.getElem?_eq_getElem hm1l)]
          exact vecOf_len _ _
        obtain ⟨vn, hvn⟩ : ∃ vn, (vecs l).getD n [] = vn := ⟨_, rfl⟩
        have hvnl : vn.length = 8 := by rw [← hvn, vecs_at hx]; exact vecOf_len _ _
        have hA0 : (bytesOf x.f0).foldl addL (List.replicate 8 0) = List.replicate 8 0 := by
          have : bytesOf x.f0 = [] := List.length_eq_zero_iff.1 (by rw [bytesOf_length]; exact z0)
          rw [this]
          rfl
        rw [hA0] at RA
        refine W.loop (fun m st => ∃ i : Nat, i ≤ 8 ∧ m = 8 - i ∧ st.get 56 = .int .i64 (i : Int) ∧ st.get 55 = .int .i64 8 ∧ st.get 12 = .slice (some ⟨ba, 0, none⟩) 8 8 ∧ st.get 7 = .slice (some ⟨M, 0, none⟩) 8 8 ∧ st.get 8 = .pointer (some ⟨M + 1, 0, none⟩) ∧ st.get 0 = .int .i64 (n : Int) ∧ st.get 1 = pt kb ∧ st.get 3 = pt ob ∧ st.ds = [] ∧
          RS mb H st.H M (vn.take i ++ List.replicate (8 - i) 0) x ∧ SInv l bs cp kb rb ob mb (fun c => bad c ∨ c = M) st.H ∧ st.H.get ba = some (.cells (ints va) ua roa) ∧ ba < st.H.size) 8 ⟨0, by omega, rfl, by (simp only [go_sem, Nat.reduceEqDiff, Nat.reduceAdd, reduceIte]; first | done | rfl), by (simp only [go_sem, Nat.reduceEqDiff, Nat.reduceAdd, reduceIte]; first | done | rfl), by (simp only [go_sem, Nat.reduceEqDiff, Nat.reduceAdd, reduceIte]; first | done | with_reducible rfl), by (simp only [go_sem, Nat.reduceEqDiff, Nat.reduceAdd, reduceIte, g7]; first | done | with_reducible rfl), by (simp only [go_sem, Nat.reduceEqDiff, Nat.reduceAdd, reduceIte, g8]; first | done | with_reducible rfl), by (simp only [go_sem, Nat.reduceEqDiff, Nat.reduceAdd, reduceIte, g0]; first | done | with_reducible rfl), by (simp only [go_sem, Nat.reduceEqDiff, Nat.reduceAdd, reduceIte, g1]; first | done | with_reducible rfl), by (simp only [go_sem, Nat.reduceEqDiff, Nat.reduceAdd, reduceIte, g3]; first | done | with_reducible rfl), by (simp only [go_sem, Nat.reduceEqDiff, Nat.reduceAdd, reduceIte, gd]; first | done | with_reducible rfl), ?_, ?_, ?_, ?_⟩ ?_
        · simp only [nx_H]; exact RA
        · simp only [nx_H]; exact hSa
        · simp only [nx_H]; exact hga
        · simp only [nx_H]; exact hba
        clear hcall g29 g28 g27 g7 g8 g0 g1 g2 g3 gd gR gb gm gs hw0 hl1 hc ho eo RA hSa hga hba
        rintro m st ⟨i, hi, rfl, g56, g55, g12, g7, g8, g0, g1, g3, gd, gR, gS, ga, gba⟩
        by_cases hi8 : i = 8
        · subst hi8
          have hc : decide (((8 : Nat) : Int) < 8) = false := by decide
          repeat' (first
              | refine W.seq ?_
              | refine W.wo ?_
              | refine WO.nil ?_
              | (apply WO.callv; (case e => (simp only [go_sem, Nat.reduceEqDiff, Nat.reduceAdd, reduceIte, g56, g55, hc]; first | done | with_reducible rfl)); (case c => (simp only [go_sem, Nat.reduceEqDiff, Nat.reduceAdd, reduceIte, g56, g55, hc]; first | done | with_reducible rfl)))
              | (apply WO.panicv; (case e => (simp only [go_sem, Nat.reduceEqDiff, Nat.reduceAdd, reduceIte, g56, g55, hc]; first | done | with_reducible rfl)))
              | (apply WO.ok; (case e => (simp only [go_sem, Nat.reduceEqDiff, Nat.reduceAdd, reduceIte, g56, g55, hc]; first | done | with_reducible rfl)))
              | (apply WO.guardT; (case hj => (simp only [go_sem, Nat.reduceEqDiff, Nat.reduceAdd, reduceIte, g56, g55, hc]; first | done | with_reducible rfl)))
              | (apply WO.guardF; (case hj => (simp only [go_sem, Nat.reduceEqDiff, Nat.reduceAdd, reduceIte, g56, g55, hc]; first | done | with_reducible rfl)))
              | (apply WO.guardU; (case hj => (simp only [go_sem, Nat.reduceEqDiff, Nat.reduceAdd, reduceIte, g56, g55, hc]; first | done | with_reducible rfl)))
              | refine W.skip ?_
              | refine W.ret ?_
              | refine W.exit ?_
              | refine W.block ?_
              | (apply W.branch; (case e => (simp only [go_sem, Nat.reduceEqDiff, Nat.reduceAdd, reduceIte, g56, g55, hc]; first | done | with_reducible rfl)))
              | refine WD.nil ?_
              | (apply WD.callv; (case e => (simp only [go_sem, Nat.reduceEqDiff, Nat.reduceAdd, reduceIte, g56, g55, hc]; first | done | with_reducible rfl)); (case c => (simp only [go_sem, Nat.reduceEqDiff, Nat.reduceAdd, reduceIte, g56, g55, hc]; first | done | with_reducible rfl)); (case hi => first | trivial | (simp only [nx_H]; done)); (case hc => rfl))
              | (apply WD.ok; (case e => (simp only [go_sem, Nat.reduceEqDiff, Nat.reduceAdd, reduceIte, g56, g55, hc]; first | done | with_reducible rfl)); (case hi => first | trivial | (simp only [nx_H]; done)); (case hc => first | rfl | (simp only [eqV, beq_self_eq_true, Bool.and_self, Bool.or_true, Bool.and_true, Option.isSome_some]; done)))
              | (apply WD.guardT; (case hj => (simp only [go_sem, Nat.reduceEqDiff, Nat.reduceAdd, reduceIte, g56, g55, hc]; first | done | with_reducible rfl)); (case hi => first | trivial | (simp only [nx_H]; done)))
              | (apply WD.guardF; (case hj => (simp only [go_sem, Nat.reduceEqDiff, Nat.reduceAdd, reduceIte, g56, g55, hc]; first | done | with_reducible rfl)); (case hi => first | trivial | (simp only [nx_H]; done)))
              | (apply WD.guardU; (case hj => (simp only [go_sem, Nat.reduceEqDiff, Nat.reduceAdd, reduceIte, g56, g55, hc]; first | done | with_reducible rfl)); (case hi => first | trivial | (simp only [nx_H]; done)))
              | with_reducible exact tf
              | with_reducible exact ft
              | intro _)
          obtain ⟨es2, cl2, em2, hes2⟩ := gS.less.m
          refine fin _ es2 cl2 ?_ ?_ ?_ ?_ ?_ ?_ ?_
          · simp only [nx_H]
            have := gR
            rw [hvn]
            rw [List.take_of_length_le (by omega), Nat.sub_self, List.replicate_zero, List.append_nil] at this
            exact this
          · simp only [nx_H]; exact em2
          · simp only [nx_H]; exact hes2
          · (simp only [go_sem, Nat.reduceEqDiff, Nat.reduceAdd, reduceIte, g0]; first | done | with_reducible rfl)
          · (simp only [go_sem, Nat.reduceEqDiff, Nat.reduceAdd, reduceIte, g1]; first | done | with_reducible rfl)
          · (simp only [go_sem, Nat.reduceEqDiff, Nat.reduceAdd, reduceIte, g7]; first | done | with_reducible rfl)
          · (simp only [go_sem, Nat.reduceEqDiff, Nat.reduceAdd, reduceIte, gd]; first | done | with_reducible rfl)
        · have hlt8 : i < 8 := by omega
          have hc : decide ((i : Int) < 8) = true := by simp; omega
          have hix : (0 ≤ (i : Int) ∧ (i : Int) < ((8 : Nat) : Int)) = True := by simp; omega
          have hw : IntKind.i64.wrap ((i : Int) + 1) = ((i + 1 : Nat) : Int) := by simp [IntKind.wrap, IntKind.bits, IntKind.signed]; omega
          have hl3 := gR.l3
          have hla : loadO st.H (.pointer (some ⟨ba, 0 + ((i : Nat) : Int).toNat * 1, none⟩)) = some (.int .i64 (rd va (i : Int))) := by
            simp only [loadO, ga, ints]
            rw [Nat.zero_add, Nat.mul_one, Int.toNat_natCast, List.getElem?_map, List.getElem?_eq_getElem (by omega)]
            simp [rd, List.getElem?_eq_getElem (show i < va.length by omega)]
          have hset : (vn.take i ++ List.replicate (8 - i) 0).set i (rd vn (i : Int)) = vn.take (i + 1) ++ List.replicate (8 - (i + 1)) 0 := by
            rw [List.set_append, if_neg (by simp; omega)]
            have e1 : 8 - i = (8 - (i + 1)) + 1 := by omega
            rw [e1, List.replicate_succ]
            have e2 : i - (vn.take i).length = 0 := by rw [List.length_take]; omega
            have e3 : rd vn (i : Int) = vn[i]'(by omega) := by simp [rd, List.getElem?_eq_getElem (show i < vn.length by omega)]
            rw [e2, List.set_cons_zero, List.take_add_one, List.getElem?_eq_getElem (by omega), e3, List.append_assoc]
            rfl
          by_cases z3 : x.f3 = 0
          · have e3 : (x.f3 != 0) = false := by simp [z3]
            have hf2 : 0 ≤ x.f2 ∧ x.f2 < n := by
              cases hnode with
              | leaf h _ => exact absurd z0 h
              | times _ h _ _ _ _ => omega
              | pair _ _ _ _ a b _ => exact ⟨a, b⟩
            obtain ⟨m2, hm2⟩ : ∃ m2 : Nat, x.f2 = (m2 : Int) := ⟨x.f2.toNat, (Int.toNat_of_nonneg hf2.1).symm⟩
            obtain ⟨bb, Hb, ub, rob, hcall, kb2, hSb, hbb, hbbm, hbbad, hgb⟩ := ih m2 (by omega) (by omega) _ _ gS
            rw [← hm2] at hcall
            obtain ⟨vb, hvb⟩ : ∃ vb, (vecs l).getD m2 [] = vb := ⟨_, rfl⟩
            rw [hvb] at hgb
            have hvbl : vb.length = 8 := by
              rw [← hvb]
              have hm2l : m2 < l.length := by omega
              rw [vecs_at (List.getElem?_eq_getElem hm2l)]
              exact vecOf_len _ _
            have hval3 : IntKind.i64.wrap (rd va (i : Int) + rd vb (i : Int)) = rd vn (i : Int) := by
              rw [← hvn, vecs_at hx]
              unfold vecOf
              rw [if_neg (by omega), if_neg (by omega), hm1, hm2, Int.toNat_natCast, Int.toNat_natCast, take_getD (by omega), take_getD (by omega), hva, hvb]
              simp [rd, hlt8]
            have RB := gR.more kb2
            have gab : Hb.get ba = some (.cells (ints va) ua roa) := (kb2.2 ba gba hbam).trans ga
            obtain ⟨Hd, hst, hRd, hmd, hsd, hod⟩ := RB.st (j := (i : Int)) (by omega) (by omega) (rd vn (i : Int))
            obtain ⟨uo, ro, eo⟩ := gS.o
            obtain ⟨uo2, ro2, eo2⟩ := hSb.o
            have ho0 := get_load eo
            have ho1 := get_load eo2
            have hod1 : Hd.get ob = Hb.get ob := hod ob (by have := hapart.2.2.1; omega)
            have ho2 := get_load (hod1.trans eo2)
            have hgl : ∀ (G : Hp) (b : Nat) (w : List Int) (u : UT) (r : Bool), w.length = 8 → G.get b = some (.cells (ints w) u r) → loadO G (.pointer (some ⟨b, 0 + ((i : Nat) : Int).toNat * 1, none⟩)) = some (.int .i64 (rd w (i : Int))) := fun G b w u r hwl hG => by
              simp only [loadO, hG, ints]
              rw [Nat.zero_add, Nat.mul_one, Int.toNat_natCast, List.getElem?_map, List.getElem?_eq_getElem (by omega)]
              simp [rd, List.getElem?_eq_getElem (show i < w.length by omega)]
            have hlb := hgl Hb bb vb ub rob hvbl hgb
            have hl2 := gR.l2
            have hvf : eqV 3 (.func (.func 45) #[] #[pt kb, pt rb, pt ob]) (.func (.func 45) #[] #[pt kb, pt rb, pt ob]) = true := by simp [eqV]
            let I : Hp → Prop := fun G => G.get ba = some (.cells (ints va) ua roa) ∧ loadO G (pt ob) = some (.func (.func 45) #[] #[pt kb, pt rb, pt ob]) ∧ loadO G (.pointer (some ⟨M + 1, 2, none⟩)) = some (.int .i64 x.f2)
            have hI0 : I st.H := ⟨ga, ho0, hl2⟩
            have hI1 : I Hb := ⟨gab, ho1, RB.l2⟩
            have hI2 : I Hd := ⟨(hod ba hbaM).trans gab, ho2, hRd.l2⟩
            repeat' (first
                | refine W.seq ?_
                | refine W.wo ?_
                | refine WO.nil ?_
                | (apply WO.callv; (case e => (simp only [go_sem, Nat.reduceEqDiff, Nat.reduceAdd, reduceIte, g56, g55, hc, g8, hl3, e3]; first | done | with_reducible rfl)); (case c => (simp only [go_sem, Nat.reduceEqDiff, Nat.reduceAdd, reduceIte, g56, g55, hc, g8, hl3, e3]; first | done | with_reducible rfl)))
                | (apply WO.panicv; (case e => (simp only [go_sem, Nat.reduceEqDiff, Nat.reduceAdd, reduceIte, g56, g55, hc, g8, hl3, e3]; first | done | with_reducible rfl)))
                | (apply WO.ok; (case e => (simp only [go_sem, Nat.reduceEqDiff, Nat.reduceAdd, reduceIte, g56, g55, hc, g8, hl3, e3]; first | done | with_reducible rfl)))
                | (apply WO.guardT; (case hj => (simp only [go_sem, Nat.reduceEqDiff, Nat.reduceAdd, reduceIte, g56, g55, hc, g8, hl3, e3]; first | done | with_reducible rfl)))
                | (apply WO.guardF; (case hj => (simp only [go_sem, Nat.reduceEqDiff, Nat.reduceAdd, reduceIte, g56, g55, hc, g8, hl3, e3]; first | done | with_reducible rfl)))
                | (apply WO.guardU; (case hj => (simp only [go_sem, Nat.reduceEqDiff, Nat.reduceAdd, reduceIte, g56, g55, hc, g8, hl3, e3]; first | done | with_reducible rfl)))
                | refine W.skip ?_
                | refine W.ret ?_
                | refine W.exit ?_
                | refine W.block ?_
                | (apply W.branch; (case e => (simp only [go_sem, Nat.reduceEqDiff, Nat.reduceAdd, reduceIte, g56, g55, hc, g8, hl3, e3]; first | done | with_reducible rfl)))
                | refine WD.nil ?_
                | (apply WD.callv; (case e => (simp only [go_sem, Nat.reduceEqDiff, Nat.reduceAdd, reduceIte, g56, g55, hc, g8, hl3, e3]; first | done | with_reducible rfl)); (case c => (simp only [go_sem, Nat.reduceEqDiff, Nat.reduceAdd, reduceIte, g56, g55, hc, g8, hl3, e3]; first | done | with_reducible rfl)); (case hi => first | trivial | (simp only [nx_H]; done)); (case hc => rfl))
                | (apply WD.ok; (case e => (simp only [go_sem, Nat.reduceEqDiff, Nat.reduceAdd, reduceIte, g56, g55, hc, g8, hl3, e3]; first | done | with_reducible rfl)); (case hi => first | trivial | (simp only [nx_H]; done)); (case hc => first | rfl | (simp only [eqV, beq_self_eq_true, Bool.and_self, Bool.or_true, Bool.and_true, Option.isSome_some]; done)))
                | (apply WD.guardT; (case hj => (simp only [go_sem, Nat.reduceEqDiff, Nat.reduceAdd, reduceIte, g56, g55, hc, g8, hl3, e3]; first | done | with_reducible rfl)); (case hi => first | trivial | (simp only [nx_H]; done)))
                | (apply WD.guardF; (case hj => (simp only [go_sem, Nat.reduceEqDiff, Nat.reduceAdd, reduceIte, g56, g55, hc, g8, hl3, e3]; first | done | with_reducible rfl)); (case hi => first | trivial | (simp only [nx_H]; done)))
                | (apply WD.guardU; (case hj => (simp only [go_sem, Nat.reduceEqDiff, Nat.reduceAdd, reduceIte, g56, g55, hc, g8, hl3, e3]; first | done | with_reducible rfl)); (case hi => first | trivial | (simp only [nx_H]; done)))
                | with_reducible exact tf
                | with_reducible exact ft
                | intro _)
            refine W.wg (I := I) (by kernel_rfl) (by simp only [nx_H]; exact hI0) ?_
            repeat' (first
                | refine WG.nil ?_
                | (apply WG.act; (case e => (simp only [go_sem, Nat.reduceEqDiff, Nat.reduceAdd, reduceIte, g56, g7, g12, g8, g3, hix, hla, ho0, hl2, hcall, hlb, hval3, hst, hw]; first | done | with_reducible rfl)); (case hi => first | exact hI0 | (simp only [nx_H]; exact hI0) | exact hI1 | (simp only [nx_H]; exact hI1) | exact hI2 | (simp only [nx_H]; exact hI2)); (case hc => rfl))
                | (apply WG.callv; (case e => (simp only [go_sem, Nat.reduceEqDiff, Nat.reduceAdd, reduceIte, g56, g7, g12, g8, g3, hix, hla, ho0, hl2, hcall, hlb, hval3, hst, hw]; first | done | with_reducible rfl)); (case c => (simp only [go_sem, Nat.reduceEqDiff, Nat.reduceAdd, reduceIte, g56, g7, g12, g8, g3, hix, hla, ho0, hl2, hcall, hlb, hval3, hst, hw]; first | done | with_reducible rfl)); (case hi => first | exact hI0 | (simp only [nx_H]; exact hI0) | exact hI1 | (simp only [nx_H]; exact hI1) | exact hI2 | (simp only [nx_H]; exact hI2)); (case hc => rfl))
                | (apply WG.same; (case e => (simp only [go_sem, Nat.reduceEqDiff, Nat.reduceAdd, reduceIte, g56, g7, g12, g8, g3, hix, hla, ho0, hl2, hcall, hlb, hval3, hst, hw]; first | done | with_reducible rfl)); (case hi => first | exact hI0 | (simp only [nx_H]; exact hI0) | exact hI1 | (simp only [nx_H]; exact hI1) | exact hI2 | (simp only [nx_H]; exact hI2)); (case hv => first | exact hvf | (simp only [eqV, beq_self_eq_true, Bool.and_self]; done)); (case ha => intro G hG; exact ⟨G, by (simp only [go_sem, Nat.reduceEqDiff, Nat.reduceAdd, reduceIte, g56, g7, g12, g8, g3, hix, hla, ho0, hl2, hcall, hlb, hval3, hst, hw, hgl G ba va ua roa hval hG.1, hG.2.1, hG.2.2]; first | done | with_reducible rfl)⟩))
                | (apply WG.rig; (case e => (simp only [go_sem, Nat.reduceEqDiff, Nat.reduceAdd, reduceIte, g56, g7, g12, g8, g3, hix, hla, ho0, hl2, hcall, hlb, hval3, hst, hw]; first | done | with_reducible rfl)); (case hi => first | exact hI0 | (simp only [nx_H]; exact hI0) | exact hI1 | (simp only [nx_H]; exact hI1) | exact hI2 | (simp only [nx_H]; exact hI2)); (case hr => kernel_rfl); (case hv => simp only [eqV, beq_self_eq_true, Bool.and_self]; done))
                | fail)
            repeat' (first
                | refine W.seq ?_
                | refine W.wo ?_
                | refine WO.nil ?_
                | (apply WO.callv; (case e => (simp only [go_sem, Nat.reduceEqDiff, Nat.reduceAdd, reduceIte, g56, hw]; first | done | with_reducible rfl)); (case c => (simp only [go_sem, Nat.reduceEqDiff, Nat.reduceAdd, reduceIte, g56, hw]; first | done | with_reducible rfl)))
                | (apply WO.panicv; (case e => (simp only [go_sem, Nat.reduceEqDiff, Nat.reduceAdd, reduceIte, g56, hw]; first | done | with_reducible rfl)))
                | (apply WO.ok; (case e => (simp only [go_sem, Nat.reduceEqDiff, Nat.reduceAdd, reduceIte, g56, hw]; first | done | with_reducible rfl)))
                | (apply WO.guardT; (case hj => (simp only [go_sem, Nat.reduceEqDiff, Nat.reduceAdd, reduceIte, g56, hw]; first | done | with_reducible rfl)))
                | (apply WO.guardF; (case hj => (simp only [go_sem, Nat.reduceEqDiff, Nat.reduceAdd, reduceIte, g56, hw]; first | done | with_reducible rfl)))
                | (apply WO.guardU; (case hj => (simp only [go_sem, Nat.reduceEqDiff, Nat.reduceAdd, reduceIte, g56, hw]; first | done | with_reducible rfl)))
                | refine W.skip ?_
                | refine W.ret ?_
                | refine W.exit ?_
                | refine W.block ?_
                | (apply W.branch; (case e => (simp only [go_sem, Nat.reduceEqDiff, Nat.reduceAdd, reduceIte, g56, hw]; first | done | with_reducible rfl)))
                | refine WD.nil ?_
                | (apply WD.callv; (case e => (simp only [go_sem, Nat.reduceEqDiff, Nat.reduceAdd, reduceIte, g56, hw]; first | done | with_reducible rfl)); (case c => (simp only [go_sem, Nat.reduceEqDiff, Nat.reduceAdd, reduceIte, g56, hw]; first | done | with_reducible rfl)); (case hi => first | trivial | (simp only [nx_H]; done)); (case hc => rfl))
                | (apply WD.ok; (case e => (simp only [go_sem, Nat.reduceEqDiff, Nat.reduceAdd, reduceIte, g56, hw]; first | done | with_reducible rfl)); (case hi => first | trivial | (simp only [nx_H]; done)); (case hc => first | rfl | (simp only [eqV, beq_self_eq_true, Bool.and_self, Bool.or_true, Bool.and_true, Option.isSome_some]; done)))
                | (apply WD.guardT; (case hj => (simp only [go_sem, Nat.reduceEqDiff, Nat.reduceAdd, reduceIte, g56, hw]; first | done | with_reducible rfl)); (case hi => first | trivial | (simp only [nx_H]; done)))
                | (apply WD.guardF; (case hj => (simp only [go_sem, Nat.reduceEqDiff, Nat.reduceAdd, reduceIte, g56, hw]; first | done | with_reducible rfl)); (case hi => first | trivial | (simp only [nx_H]; done)))
                | (apply WD.guardU; (case hj => (simp only [go_sem, Nat.reduceEqDiff, Nat.reduceAdd, reduceIte, g56, hw]; first | done | with_reducible rfl)); (case hi => first | trivial | (simp only [nx_H]; done)))
                | with_reducible exact tf
                | with_reducible exact ft
                | intro _)
            refine ⟨8 - (i + 1), by omega, i + 1, by omega, rfl, by (simp only [go_sem, Nat.reduceEqDiff, Nat.reduceAdd, reduceIte]; first | done | with_reducible rfl), by (simp only [go_sem, Nat.reduceEqDiff, Nat.reduceAdd, reduceIte, g55]; first | done | with_reducible rfl), by (simp only [go_sem, Nat.reduceEqDiff, Nat.reduceAdd, reduceIte, g12]; first | done | with_reducible rfl), by (simp only [go_sem, Nat.reduceEqDiff, Nat.reduceAdd, reduceIte, g7]; first | done | with_reducible rfl), by (simp only [go_sem, Nat.reduceEqDiff, Nat.reduceAdd, reduceIte, g8]; first | done | with_reducible rfl), by (simp only [go_sem, Nat.reduceEqDiff, Nat.reduceAdd, reduceIte, g0]; first | done | with_reducible rfl), by (simp only [go_sem, Nat.reduceEqDiff, Nat.reduceAdd, reduceIte, g1]; first | done | with_reducible rfl), by (simp only [go_sem, Nat.reduceEqDiff, Nat.reduceAdd, reduceIte, g3]; first | done | with_reducible rfl), by (simp only [go_sem, Nat.reduceEqDiff, Nat.reduceAdd, reduceIte, gd]; first | done | with_reducible rfl), ?_, ?_, ?_, ?_⟩
            · simp only [nx_H]
              rw [Int.toNat_natCast, hset] at hRd
              exact hRd
            · simp only [nx_H]
              exact hSb.put hsd hmd hapart hod
            · simp only [nx_H]
              exact (hod _ hbaM).trans gab
            · simp only [nx_H]
              rw [hsd]; exact Nat.lt_of_lt_of_le gba kb2.1
          · have e3 : (x.f3 != 0) = true := by simp [z3]
            have hval3 : IntKind.i64.wrap (rd va (i : Int) * x.f3) = rd vn (i : Int) := by
              rw [← hvn, vecs_at hx]
              unfold vecOf
              rw [if_neg (by omega), if_pos z3, hm1, Int.toNat_natCast, take_getD (by omega), hva]
              simp [rd, hlt8]
            obtain ⟨Hd, hst, hRd, hmd, hsd, hod⟩ := gR.st (j := (i : Int)) (by omega) (by omega) (rd vn (i : Int))
            repeat' (first
                | refine W.seq ?_
                | refine W.wo ?_
                | refine WO.nil ?_
                | (apply WO.callv; (case e => (simp only [go_sem, Nat.reduceEqDiff, Nat.reduceAdd, reduceIte, g56, g55, hc, g8, hl3, e3]; first | done | with_reducible rfl)); (case c => (simp only [go_sem, Nat.reduceEqDiff, Nat.reduceAdd, reduceIte, g56, g55, hc, g8, hl3, e3]; first | done | with_reducible rfl)))
                | (apply WO.panicv; (case e => (simp only [go_sem, Nat.reduceEqDiff, Nat.reduceAdd, reduceIte, g56, g55, hc, g8, hl3, e3]; first | done | with_reducible rfl)))
                | (apply WO.ok; (case e => (simp only [go_sem, Nat.reduceEqDiff, Nat.reduceAdd, reduceIte, g56, g55, hc, g8, hl3, e3]; first | done | with_reducible rfl)))
                | (apply WO.guardT; (case hj => (simp only [go_sem, Nat.reduceEqDiff, Nat.reduceAdd, reduceIte, g56, g55, hc, g8, hl3, e3]; first | done | with_reducible rfl)))
                | (apply WO.guardF; (case hj => (simp only [go_sem, Nat.reduceEqDiff, Nat.reduceAdd, reduceIte, g56, g55, hc, g8, hl3, e3]; first | done | with_reducible rfl)))
                | (apply WO.guardU; (case hj => (simp only [go_sem, Nat.reduceEqDiff, Nat.reduceAdd, reduceIte, g56, g55, hc, g8, hl3, e3]; first | done | with_reducible rfl)))
                | refine W.skip ?_
                | refine W.ret ?_
                | refine W.exit ?_
                | refine W.block ?_
                | (apply W.branch; (case e => (simp only [go_sem, Nat.reduceEqDiff, Nat.reduceAdd, reduceIte, g56, g55, hc, g8, hl3, e3]; first | done | with_reducible rfl)))
                | refine WD.nil ?_
                | (apply WD.callv; (case e => (simp only [go_sem, Nat.reduceEqDiff, Nat.reduceAdd, reduceIte, g56, g55, hc, g8, hl3, e3]; first | done | with_reducible rfl)); (case c => (simp only [go_sem, Nat.reduceEqDiff, Nat.reduceAdd, reduceIte, g56, g55, hc, g8, hl3, e3]; first | done | with_reducible rfl)); (case hi => first | trivial | (simp only [nx_H]; done)); (case hc => rfl))
                | (apply WD.ok; (case e => (simp only [go_sem, Nat.reduceEqDiff, Nat.reduceAdd, reduceIte, g56, g55, hc, g8, hl3, e3]; first | done | with_reducible rfl)); (case hi => first | trivial | (simp only [nx_H]; done)); (case hc => first | rfl | (simp only [eqV, beq_self_eq_true, Bool.and_self, Bool.or_true, Bool.and_true, Option.isSome_some]; done)))
                | (apply WD.guardT; (case hj => (simp only [go_sem, Nat.reduceEqDiff, Nat.reduceAdd, reduceIte, g56, g55, hc, g8, hl3, e3]; first | done | with_reducible rfl)); (case hi => first | trivial | (simp only [nx_H]; done)))
                | (apply WD.guardF; (case hj => (simp only [go_sem, Nat.reduceEqDiff, Nat.reduceAdd, reduceIte, g56, g55, hc, g8, hl3, e3]; first | done | with_reducible rfl)); (case hi => first | trivial | (simp only [nx_H]; done)))
                | (apply WD.guardU; (case hj => (simp only [go_sem, Nat.reduceEqDiff, Nat.reduceAdd, reduceIte, g56, g55, hc, g8, hl3, e3]; first | done | with_reducible rfl)); (case hi => first | trivial | (simp only [nx_H]; done)))
                | with_reducible exact tf
                | with_reducible exact ft
                | intro _)
            apply W.wd
            case hg => kernel_rfl
            repeat' (first
                | refine W.seq ?_
                | refine W.wo ?_
                | refine WO.nil ?_
                | (apply WO.callv; (case e => (simp only [go_sem, Nat.reduceEqDiff, Nat.reduceAdd, reduceIte, g56, g7, g12, g8, hix, hla, hl3, hval3, hst, hw]; first | done | with_reducible rfl)); (case c => (simp only [go_sem, Nat.reduceEqDiff, Nat.reduceAdd, reduceIte, g56, g7, g12, g8, hix, hla, hl3, hval3, hst, hw]; first | done | with_reducible rfl)))
                | (apply WO.panicv; (case e => (simp only [go_sem, Nat.reduceEqDiff, Nat.reduceAdd, reduceIte, g56, g7, g12, g8, hix, hla, hl3, hval3, hst, hw]; first | done | with_reducible rfl)))
                | (apply WO.ok; (case e => (simp only [go_sem, Nat.reduceEqDiff, Nat.reduceAdd, reduceIte, g56, g7, g12, g8, hix, hla, hl3, hval3, hst, hw]; first | done | with_reducible rfl)))
                | (apply WO.guardT; (case hj => (simp only [go_sem, Nat.reduceEqDiff, Nat.reduceAdd, reduceIte, g56, g7, g12, g8, hix, hla, hl3, hval3, hst, hw]; first | done | with_reducible rfl)))
                | (apply WO.guardF; (case hj => (simp only [go_sem, Nat.reduceEqDiff, Nat.reduceAdd, reduceIte, g56, g7, g12, g8, hix, hla, hl3, hval3, hst, hw]; first | done | with_reducible rfl)))
                | (apply WO.guardU; (case hj => (simp only [go_sem, Nat.reduceEqDiff, Nat.reduceAdd, reduceIte, g56, g7, g12, g8, hix, hla, hl3, hval3, hst, hw]; first | done | with_reducible rfl)))
                | refine W.skip ?_
                | refine W.ret ?_
                | refine W.exit ?_
                | refine W.block ?_
                | (apply W.branch; (case e => (simp only [go_sem, Nat.reduceEqDiff, Nat.reduceAdd, reduceIte, g56, g7, g12, g8, hix, hla, hl3, hval3, hst, hw]; first | done | with_reducible rfl)))
                | refine WD.nil ?_
                | (apply WD.callv; (case e => (simp only [go_sem, Nat.reduceEqDiff, Nat.reduceAdd, reduceIte, g56, g7, g12, g8, hix, hla, hl3, hval3, hst, hw]; first | done | with_reducible rfl)); (case c => (simp only [go_sem, Nat.reduceEqDiff, Nat.reduceAdd, reduceIte, g56, g7, g12, g8, hix, hla, hl3, hval3, hst, hw]; first | done | with_reducible rfl)); (case hi => first | trivial | (simp only [nx_H]; done)); (case hc => rfl))
                | (apply WD.ok; (case e => (simp only [go_sem, Nat.reduceEqDiff, Nat.reduceAdd, reduceIte, g56, g7, g12, g8, hix, hla, hl3, hval3, hst, hw]; first | done | with_reducible rfl)); (case hi => first | trivial | (simp only [nx_H]; done)); (case hc => first | rfl | (simp only [eqV, beq_self_eq_true, Bool.and_self, Bool.or_true, Bool.and_true, Option.isSome_some]; done)))
                | (apply WD.guardT; (case hj => (simp only [go_sem, Nat.reduceEqDiff, Nat.reduceAdd, reduceIte, g56, g7, g12, g8, hix, hla, hl3, hval3, hst, hw]; first | done | with_reducible rfl)); (case hi => first | trivial | (simp only [nx_H]; done)))
                | (apply WD.guardF; (case hj => (simp only [go_sem, Nat.reduceEqDiff, Nat.reduceAdd, reduceIte, g56, g7, g12, g8, hix, hla, hl3, hval3, hst, hw]; first | done | with_reducible rfl)); (case hi => first | trivial | (simp only [nx_H]; done)))
                | (apply WD.guardU; (case hj => (simp only [go_sem, Nat.reduceEqDiff, Nat.reduceAdd, reduceIte, g56, g7, g12, g8, hix, hla, hl3, hval3, hst, hw]; first | done | with_reducible rfl)); (case hi => first | trivial | (simp only [nx_H]; done)))
                | with_reducible exact tf
                | with_reducible exact ft
                | intro _)
            refine ⟨8 - (i + 1), by omega, i + 1, by omega, rfl, by (simp only [go_sem, Nat.reduceEqDiff, Nat.reduceAdd, reduceIte]; first | done | with_reducible rfl), by (simp only [go_sem, Nat.reduceEqDiff, Nat.reduceAdd, reduceIte, g55]; first | done | with_reducible rfl), by (simp only [go_sem, Nat.reduceEqDiff, Nat.reduceAdd, reduceIte, g12]; first | done | with_reducible rfl), by (simp only [go_sem, Nat.reduceEqDiff, Nat.reduceAdd, reduceIte, g7]; first | done | with_reducible rfl), by (simp only [go_sem, Nat.reduceEqDiff, Nat.reduceAdd, reduceIte, g8]; first | done | with_reducible rfl), by (simp only [go_sem, Nat.reduceEqDiff, Nat.reduceAdd, reduceIte, g0]; first | done | with_reducible rfl), by (simp only [go_sem, Nat.reduceEqDiff, Nat.reduceAdd, reduceIte, g1]; first | done | with_reducible rfl), by (simp only [go_sem, Nat.reduceEqDiff, Nat.reduceAdd, reduceIte, g3]; first | done | with_reducible rfl), by (simp only [go_sem, Nat.reduceEqDiff, Nat.reduceAdd, reduceIte, gd]; first | done | with_reducible rfl), ?_, ?_, ?_, ?_⟩
            · simp only [nx_H]
              rw [Int.toNat_natCast, hset] at hRd
              exact hRd
            · simp only [nx_H]
              exact gS.put hsd hmd hapart hod
            · simp only [nx_H]
              rw [hod _ hbaM]; exact ga
            · simp only [nx_H]
              rw [hsd]; exact gba
      · have e0 : (x.f0.toList == (⟨#[]⟩ : ByteArray).toList) = false := by rw [he]; simp [z0]
        repeat' (first
            | refine W.seq ?_
            | refine W.wo ?_
            | refine WO.nil ?_
            | (apply WO.callv; (case e => (simp only [go_sem, Nat.reduceEqDiff, Nat.reduceAdd, reduceIte, g29, g28, hc, g8, hw0, e0]; first | done | with_reducible rfl)); (case c => (simp only [go_sem, Nat.reduceEqDiff, Nat.reduceAdd, reduceIte, g29, g28, hc, g8, hw0, e0]; first | done | with_reducible rfl)))
            | (apply WO.panicv; (case e => (simp only [go_sem, Nat.reduceEqDiff, Nat.reduceAdd, reduceIte, g29, g28, hc, g8, hw0, e0]; first | done | with_reducible rfl)))
            | (apply WO.ok; (case e => (simp only [go_sem, Nat.reduceEqDiff, Nat.reduceAdd, reduceIte, g29, g28, hc, g8, hw0, e0]; first | done | with_reducible rfl)))
            | (apply WO.guardT; (case hj => (simp only [go_sem, Nat.reduceEqDiff, Nat.reduceAdd, reduceIte, g29, g28, hc, g8, hw0, e0]; first | done | with_reducible rfl)))
            | (apply WO.guardF; (case hj => (simp only [go_sem, Nat.reduceEqDiff, Nat.reduceAdd, reduceIte, g29, g28, hc, g8, hw0, e0]; first | done | with_reducible rfl)))
            | (apply WO.guardU; (case hj => (simp only [go_sem, Nat.reduceEqDiff, Nat.reduceAdd, reduceIte, g29, g28, hc, g8, hw0, e0]; first | done | with_reducible rfl)))
            | refine W.skip ?_
            | refine W.ret ?_
            | refine W.exit ?_
            | refine W.block ?_
            | (apply W.branch; (case e => (simp only [go_sem, Nat.reduceEqDiff, Nat.reduceAdd, reduceIte, g29, g28, hc, g8, hw0, e0]; first | done | with_reducible rfl)))
            | refine WD.nil ?_
            | (apply WD.callv; (case e => (simp only [go_sem, Nat.reduceEqDiff, Nat.reduceAdd, reduceIte, g29, g28, hc, g8, hw0, e0]; first | done | with_reducible rfl)); (case c => (simp only [go_sem, Nat.reduceEqDiff, Nat.reduceAdd, reduceIte, g29, g28, hc, g8, hw0, e0]; first | done | with_reducible rfl)); (case hi => first | trivial | (simp only [nx_H]; done)); (case hc => rfl))
            | (apply WD.ok; (case e => (simp only [go_sem, Nat.reduceEqDiff, Nat.reduceAdd, reduceIte, g29, g28, hc, g8, hw0, e0]; first | done | with_reducible rfl)); (case hi => first | trivial | (simp only [nx_H]; done)); (case hc => first | rfl | (simp only [eqV, beq_self_eq_true, Bool.and_self, Bool.or_true, Bool.and_true, Option.isSome_some]; done)))
            | (apply WD.guardT; (case hj => (simp only [go_sem, Nat.reduceEqDiff, Nat.reduceAdd, reduceIte, g29, g28, hc, g8, hw0, e0]; first | done | with_reducible rfl)); (case hi => first | trivial | (simp only [nx_H]; done)))
            | (apply WD.guardF; (case hj => (simp only [go_sem, Nat.reduceEqDiff, Nat.reduceAdd, reduceIte, g29, g28, hc, g8, hw0, e0]; first | done | with_reducible rfl)); (case hi => first | trivial | (simp only [nx_H]; done)))
            | (apply WD.guardU; (case hj => (simp only [go_sem, Nat.reduceEqDiff, Nat.reduceAdd, reduceIte, g29, g28, hc, g8, hw0, e0]; first | done | with_reducible rfl)); (case hi => first | trivial | (simp only [nx_H]; done)))
            | with_reducible exact tf
            | with_reducible exact ft
            | intro _)
        refine fin _ es cl ?_ ?_ ?_ ?_ ?_ ?_ ?_
        · simp only [nx_H]
          have hv : (vecs l).getD n [] = leafV x.f0 := by
            rw [vecs_at hx]
            unfold vecOf
            rw [if_pos z0]
          rw [hv]
          exact gR
        · simp only [nx_H]; exact gm.trans em
        · simp only [nx_H]
          exact fun e he => (hes e he).keep gR.keep
        · (simp only [go_sem, Nat.reduceEqDiff, Nat.reduceAdd, reduceIte, g0]; first | done | with_reducible rfl)
        · (simp only [go_sem, Nat.reduceEqDiff, Nat.reduceAdd, reduceIte, g1]; first | done | with_reducible rfl)
        · (simp only [go_sem, Nat.reduceEqDiff, Nat.reduceAdd, reduceIte, g7]; first | done | with_reducible rfl)
        · (simp only [go_sem, Nat.reduceEqDiff, Nat.reduceAdd, reduceIte, gd]; first | done | with_reducible rfl)
    · have hlt : j < x.f0.size := by omega
      have hc : decide ((j : Int) < (x.f0.size : Int)) = true := by simp; omega
      have hck := leaf_ok hl hx (by omega)
      obtain ⟨c, hcc⟩ : ∃ c, bt x.f0 (j : Int) = c := ⟨_, rfl⟩
      have hlb : isLB c = true := by rw [← hcc]; exact allLB_at hck hlt
      have hi0 : 0 ≤ index c := of_decide_eq_true hlb
      have hi1 := (index_range c).2
      obtain ⟨q, hq⟩ : ∃ q, index c = q := ⟨_, rfl⟩
      have h46 : K 46 #[.int .u8 c] st.H = some (.ret (.int .i64 q) st.H) := by
        rw [← hq]
        refine K46 c st.H ?_
        obtain ⟨h1, u, ro, h2⟩ := hg0
        exact ⟨Nat.lt_of_lt_of_le h1 gR.keep.1, u, ro, (gR.keep.2 0 h1 hS.m0.symm).trans h2⟩
      rw [hq] at hi0 hi1
      have hix : (0 ≤ (j : Int) ∧ (j : Int) < ((x.f0.size : Nat) : Int)) = True := by simp; omega
      have hlc : loadO st.H (.pointer (some ⟨M + 2, 0 + ((j : Nat) : Int).toNat * 1, none⟩)) = some (.int .u8 c) := by
        simp only [loadO, gb]
        rw [Nat.zero_add, Nat.mul_one, Int.toNat_natCast, ← hcc]
        exact strB_at hlt
      have h20 : ((2 : Int) = 0) = False := by simp
      have hd0 : 0 ≤ Int.tdiv q 2 := Int.tdiv_nonneg (by omega) (by omega)
      have hd1 : Int.tdiv q 2 < 8 := by rw [Int.tdiv_eq_ediv_of_nonneg (by omega)]; omega
      have hw1 : IntKind.i64.wrap (Int.tdiv q 2) = Int.tdiv q 2 := by simp [IntKind.wrap, IntKind.bits, IntKind.signed]; omega
      have hm0 : Int.tmod q 2 = q % 2 := Int.tmod_eq_emod_of_nonneg (by omega)
      have hw2 : IntKind.i64.wrap (2 * Int.tmod q 2) = 2 * Int.tmod q 2 := by rw [hm0]; simp [IntKind.wrap, IntKind.bits, IntKind.signed]; omega
      have hw3 : IntKind.i64.wrap (1 - 2 * Int.tmod q 2) = 1 - 2 * Int.tmod q 2 := by rw [hm0]; simp [IntKind.wrap, IntKind.bits, IntKind.signed]; omega
      have hix2 : (0 ≤ Int.tdiv q 2 ∧ Int.tdiv q 2 < ((8 : Nat) : Int)) = True := by simp; omega
      have hlo := gR.lo hd0 hd1
      have hw4 : IntKind.i64.wrap ((j : Int) + 1) = ((j + 1 : Nat) : Int) := by
        have : x.f0.size ≤ 100000 := (checkS_le hck)
        simp [IntKind.wrap, IntKind.bits, IntKind.signed]; omega
      obtain ⟨Hd, hst, hRd, hmd, hsd, hod⟩ := gR.st hd0 hd1 (IntKind.i64.wrap (rd (((bytesOf x.f0).take j).foldl addL (List.replicate 8 0)) (Int.tdiv q 2) + (1 - 2 * Int.tmod q 2)))
      repeat' (first
          | refine W.seq ?_
          | refine W.wo ?_
          | refine WO.nil ?_
          | (apply WO.callv; (case e => (simp only [go_sem, Nat.reduceEqDiff, Nat.reduceAdd, reduceIte, g29, g28, g27, g7, hc, hix, hlc, h46, h20, hw1, hw2, hw3, hix2, hlo, hst, hw4]; first | done | with_reducible rfl)); (case c => (simp only [go_sem, Nat.reduceEqDiff, Nat.reduceAdd, reduceIte, g29, g28, g27, g7, hc, hix, hlc, h46, h20, hw1, hw2, hw3, hix2, hlo, hst, hw4]; first | done | with_reducible rfl)))
          | (apply WO.panicv; (case e => (simp only [go_sem, Nat.reduceEqDiff, Nat.reduceAdd, reduceIte, g29, g28, g27, g7, hc, hix, hlc, h46, h20, hw1, hw2, hw3, hix2, hlo, hst, hw4]; first | done | with_reducible rfl)))
          | (apply WO.ok; (case e => (simp only [go_sem, Nat.reduceEqDiff, Nat.reduceAdd, reduceIte, g29, g28, g27, g7, hc, hix, hlc, h46, h20, hw1, hw2, hw3, hix2, hlo, hst, hw4]; first | done | with_reducible rfl)))
          | (apply WO.guardT; (case hj => (simp only [go_sem, Nat.reduceEqDiff, Nat.reduceAdd, reduceIte, g29, g28, g27, g7, hc, hix, hlc, h46, h20, hw1, hw2, hw3, hix2, hlo, hst, hw4]; first | done | with_reducible rfl)))
          | (apply WO.guardF; (case hj => (simp only [go_sem, Nat.reduceEqDiff, Nat.reduceAdd, reduceIte, g29, g28, g27, g7, hc, hix, hlc, h46, h20, hw1, hw2, hw3, hix2, hlo, hst, hw4]; first | done | with_reducible rfl)))
          | (apply WO.guardU; (case hj => (simp only [go_sem, Nat.reduceEqDiff, Nat.reduceAdd, reduceIte, g29, g28, g27, g7, hc, hix, hlc, h46, h20, hw1, hw2, hw3, hix2, hlo, hst, hw4]; first | done | with_reducible rfl)))
          | refine W.skip ?_
          | refine W.ret ?_
          | refine W.exit ?_
          | refine W.block ?_
          | (apply W.branch; (case e => (simp only [go_sem, Nat.reduceEqDiff, Nat.reduceAdd, reduceIte, g29, g28, g27, g7, hc, hix, hlc, h46, h20, hw1, hw2, hw3, hix2, hlo, hst, hw4]; first | done | with_reducible rfl)))
          | refine WD.nil ?_
          | (apply WD.callv; (case e => (simp only [go_sem, Nat.reduceEqDiff, Nat.reduceAdd, reduceIte, g29, g28, g27, g7, hc, hix, hlc, h46, h20, hw1, hw2, hw3, hix2, hlo, hst, hw4]; first | done | with_reducible rfl)); (case c => (simp only [go_sem, Nat.reduceEqDiff, Nat.reduceAdd, reduceIte, g29, g28, g27, g7, hc, hix, hlc, h46, h20, hw1, hw2, hw3, hix2, hlo, hst, hw4]; first | done | with_reducible rfl)); (case hi => first | trivial | (simp only [nx_H]; done)); (case hc => rfl))
          | (apply WD.ok; (case e => (simp only [go_sem, Nat.reduceEqDiff, Nat.reduceAdd, reduceIte, g29, g28, g27, g7, hc, hix, hlc, h46, h20, hw1, hw2, hw3, hix2, hlo, hst, hw4]; first | done | with_reducible rfl)); (case hi => first | trivial | (simp only [nx_H]; done)); (case hc => first | rfl | (simp only [eqV, beq_self_eq_true, Bool.and_self, Bool.or_true, Bool.and_true, Option.isSome_some]; done)))
          | (apply WD.guardT; (case hj => (simp only [go_sem, Nat.reduceEqDiff, Nat.reduceAdd, reduceIte, g29, g28, g27, g7, hc, hix, hlc, h46, h20, hw1, hw2, hw3, hix2, hlo, hst, hw4]; first | done | with_reducible rfl)); (case hi => first | trivial | (simp only [nx_H]; done)))
          | (apply WD.guardF; (case hj => (simp only [go_sem, Nat.reduceEqDiff, Nat.reduceAdd, reduceIte, g29, g28, g27, g7, hc, hix, hlc, h46, h20, hw1, hw2, hw3, hix2, hlo, hst, hw4]; first | done | with_reducible rfl)); (case hi => first | trivial | (simp only [nx_H]; done)))
          | (apply WD.guardU; (case hj => (simp only [go_sem, Nat.reduceEqDiff, Nat.reduceAdd, reduceIte, g29, g28, g27, g7, hc, hix, hlc, h46, h20, hw1, hw2, hw3, hix2, hlo, hst, hw4]; first | done | with_reducible rfl)); (case hi => first | trivial | (simp only [nx_H]; done)))
          | with_reducible exact tf
          | with_reducible exact ft
          | intro _)
      refine ⟨x.f0.size - (j + 1), by omega, j + 1, by omega, rfl, by (simp only [go_sem, Nat.reduceEqDiff, Nat.reduceAdd, reduceIte]; first | done | with_reducible rfl), by (simp only [go_sem, Nat.reduceEqDiff, Nat.reduceAdd, reduceIte, g28]; first | done | with_reducible rfl), by (simp only [go_sem, Nat.reduceEqDiff, Nat.reduceAdd, reduceIte, g27]; first | done | with_reducible rfl), by (simp only [go_sem, Nat.reduceEqDiff, Nat.reduceAdd, reduceIte, g7]; first | done | with_reducible rfl), by (simp only [go_sem, Nat.reduceEqDiff, Nat.reduceAdd, reduceIte, g8]; first | done | with_reducible rfl), by (simp only [go_sem, Nat.reduceEqDiff, Nat.reduceAdd, reduceIte, g0]; first | done | with_reducible rfl), by (simp only [go_sem, Nat.reduceEqDiff, Nat.reduceAdd, reduceIte, g1]; first | done | with_reducible rfl), by (simp only [go_sem, Nat.reduceEqDiff, Nat.reduceAdd, reduceIte, g2]; first | done | with_reducible rfl), by (simp only [go_sem, Nat.reduceEqDiff, Nat.reduceAdd, reduceIte, g3]; first | done | with_reducible rfl), by (simp only [go_sem, Nat.reduceEqDiff, Nat.reduceAdd, reduceIte, gd]; first | done | with_reducible rfl), ?_, ?_, ?_, ?_⟩
      · simp only [nx_H]
        rw [take_bytes hlt, List.foldl_append]
        show RS mb H Hd M (addL _ (bt x.f0 (j : Int))) x
        rw [hcc]
        unfold addL
        rw [hq]
        exact hRd
      · simp only [nx_H]
        rw [hod _ (by omega)]; exact gb
      · simp only [nx_H]
        rw [hmd]; exact gm
      · simp only [nx_H]
        rw [hsd]; exact gs
end
end Go.Proofs.YtehbekgmemebjaaDoorEv
