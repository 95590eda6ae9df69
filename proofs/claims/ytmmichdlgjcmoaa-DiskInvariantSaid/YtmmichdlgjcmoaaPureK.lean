import Derived.Test.YtmmichdlgjcmoaaPAllx0
import Derived.Test.YtmmichdlgjcmoaaPAllx2
import Derived.OpenShut
import Derived.Test.YtmmichdlgjcmoaaPAllx3
import Derived.Test.YtmmichdlgjcmoaaExtE
import Derived.Test.YtmmichdlgjcmoaaPAllx8
import Derived.Test.YtmmichdlgjcmoaaExtM
import Derived.Test.YtmmichdlgjcmoaaPureJ
namespace Go.Proofs.Ytmmichdlgjcmoaa.PAll
open Go.RowKit Go.Proofs.YtmmichdlgjcmoaaW.PrintWords Go.Proofs.YtmmichdlgjcmoaaW.PrintLast Go.Proofs.YtmmichdlgjcmoaaW.PrintMore H
set_option linter.unusedVariables false
set_option linter.unusedSimpArgs false
namespace H
theorem movesS_ok {g : Int} {rels : List ByteArray} {s : ByteArray} {ms : List S52} {x : ByteArray × List S59} (h : movesS g rels s ms = .ok x) : isPresS g rels = true ∧ isWordL g (bytesOf s) = true ∧ ms.length ≤ 100000 ∧ walkS g rels (s, []) ms = some x := by
  unfold movesS at h
  split at h
  · rename_i he
    obtain ⟨hp, hw, _⟩ := examine_zero he
    split at h
    · rename_i hm
      refine ⟨hp, hw s (by simp), hm, ?_⟩
      cases hx : walkS g rels (s, []) ms with
      | none => rw [hx] at h; cases h
      | some y => rw [hx] at h; cases h; rfl
    · cases h
  · cases h
theorem movesS_inv {g : Int} {rels : List ByteArray} {s : ByteArray} {ms : List S52} {x : ByteArray × List S59} (h : movesS g rels s ms = .ok x) : x.1.size ≤ 100000 ∧ allL (bytesOf x.1) ∧ (∀ c ∈ x.2, CellL rels c ∧ c.f0.size ≤ 200000) ∧ x.2.length ≤ ms.length := by
  obtain ⟨hp, hw, hm, hx⟩ := movesS_ok h
  obtain ⟨h1, h2, h3, h4⟩ := walk_inv (relsL_of hp) (isPresS_g hp) ms s [] x (isWordL_len hw) (allL_of hw) (fun c hc => by cases hc) hx
  exact ⟨h1, h2, h3, by simpa using h4⟩
theorem Eqv.left {xs ys zs : List Int} (h : Eqv ys zs) (hx : allL xs) : Eqv (xs ++ ys) (xs ++ zs) := Eqv.app (Eqv.refl xs) h hx
theorem eqv_back {xs : List Int} (hx : allL xs) (zs : List Int) : Eqv (invL xs ++ (xs ++ zs)) zs := by
  rw [← List.append_assoc]
  exact Eqv.app (eqv_inv_right hx) (Eqv.refl zs) (allL_app (allL_inv hx) hx)
theorem eqv_forth {xs : List Int} (hx : allL xs) (zs : List Int) : Eqv (xs ++ (invL xs ++ zs)) zs := by
  rw [← List.append_assoc]
  exact Eqv.app (eqv_inv_left hx) (Eqv.refl zs) (allL_app hx (allL_inv hx))
theorem cellM_eqv {rels : List ByteArray} {s : ByteArray} {m : S52} (hr : relsL rels) (h : relOkM rels m = true) (hL : allL (bytesOf s)) (hs : s.size ≤ 100000) (b : Bool) :
    Eqv (cellL rels (cellM rels s m b)) ((bytesOf s).take m.f1.toNat ++ (invL (bytesOf (beforeM rels m)) ++ (bytesOf (sideS rels m.f3 b) ++ (bytesOf (beforeM rels m) ++ invL ((bytesOf s).take m.f1.toNat))))) := by
  have hb := (before_L hr h).2
  have hp : allL ((bytesOf s).take m.f1.toNat) := fun x hx => hL x (List.mem_of_mem_take hx)
  have hw : allL ((bytesOf s).take m.f1.toNat ++ invL (bytesOf (beforeM rels m))) := allL_app hp (allL_inv hb)
  have hc := (cellM_L hr h hL hs b).1
  have hred : redL [s.extract 0 m.f1.toNat, invS (beforeM rels m)] = red ((bytesOf s).take m.f1.toNat ++ invL (bytesOf (beforeM rels m))) := by
    rw [redL_two, bytesOf_extract, List.drop_zero, bytesOf_invS hb]
  have hcw : bytesOf (cellM rels s m b).f0 = red ((bytesOf s).take m.f1.toNat ++ invL (bytesOf (beforeM rels m))) := by
    show bytesOf (strOfNums (redL _)) = _
    rw [hred]
    exact bytesOf_strOf (allL_range (red_redu hw).isL)
  have hside : allL (bytesOf (sideS rels m.f3 b)) := (sideS_L hr b (relOkM_iff.1 h).1 (relOkM_iff.1 h).2.1).2
  have e0 : Eqv (red ((bytesOf s).take m.f1.toNat ++ invL (bytesOf (beforeM rels m)))) ((bytesOf s).take m.f1.toNat ++ invL (bytesOf (beforeM rels m))) := eqv_red hw
  have hrl : allL (red ((bytesOf s).take m.f1.toNat ++ invL (bytesOf (beforeM rels m)))) := (red_redu hw).isL
  have e1 : cellL rels (cellM rels s m b) = red ((bytesOf s).take m.f1.toNat ++ invL (bytesOf (beforeM rels m))) ++ (bytesOf (sideS rels m.f3 b) ++ invL (red ((bytesOf s).take m.f1.toNat ++ invL (bytesOf (beforeM rels m))))) := by
    unfold cellL
    rw [bytesOf_invS hc.2.2, hcw]
    rfl
  rw [e1]
  have e2 : invL ((bytesOf s).take m.f1.toNat ++ invL (bytesOf (beforeM rels m))) = bytesOf (beforeM rels m) ++ invL ((bytesOf s).take m.f1.toNat) := by
    rw [invL_app, invL_inv hb]
  have := Eqv.app e0 (Eqv.left (xs := bytesOf (sideS rels m.f3 b)) (eqv_inv hrl hw e0) hside) hrl
  rw [e2, List.append_assoc] at this
  exact this
theorem relM_split {rels : List ByteArray} {m : S52} : ∃ A, bytesOf (relM rels m) = bytesOf (beforeM rels m) ++ A ∧ bytesOf (rotM rels m) = A ++ bytesOf (beforeM rels m) := by
  refine ⟨(bytesOf (relM rels m)).drop m.f4.toNat, ?_, ?_⟩
  · unfold beforeM
    rw [bytesOf_extract, List.drop_zero, List.take_append_drop]
  · unfold rotM
    rw [bytesOf_cat, bytesOf_extract, List.take_of_length_le (by rw [bytesOf_length]; exact Nat.le_refl _)]
theorem bytes_two (s : ByteArray) (i : Nat) (h : i + 2 ≤ s.size) : bytesOf s = (bytesOf s).take i ++ ([bt s (i : Int), bt s ((i : Int) + 1)] ++ (bytesOf s).drop (i + 2)) := by
  have hl := bytesOf_length s
  have h1 : (bytesOf s)[i]'(by omega) = bt s (i : Int) := by
    have := bytesOf_at s ((bytesOf s).take i) ((bytesOf s)[i]'(by omega)) ((bytesOf s).drop (i + 1)) (by simp)
    rw [List.length_take, Nat.min_eq_left (by omega)] at this
    exact this.symm
  have h2 : (bytesOf s)[i + 1]'(by omega) = bt s ((i : Int) + 1) := by
    have := bytesOf_at s ((bytesOf s).take (i + 1)) ((bytesOf s)[i + 1]'(by omega)) ((bytesOf s).drop (i + 1 + 1)) (by simp)
    rw [List.length_take, Nat.min_eq_left (by omega)] at this
    exact this.symm
  conv => lhs; rw [← List.take_append_drop i (bytesOf s)]
  congr 1
  rw [List.drop_eq_getElem_cons (by omega), List.drop_eq_getElem_cons (show i + 1 < (bytesOf s).length by omega), h1, h2]
  rfl
theorem bytes_pref {s t : ByteArray} {a : Int} (h0 : 0 ≤ a) (h1 : a ≤ s.size) (h : prefB (s.extract a.toNat s.size) t = true) : bytesOf s = (bytesOf s).take a.toNat ++ (bytesOf t ++ (bytesOf s).drop (a.toNat + t.size)) := by
  obtain ⟨h2, h3⟩ := (pref_iff h0 h1).1 h
  have e := congrArg bytesOf (toList_inj h3)
  rw [bytesOf_extract, show (a + (t.size : Int)).toNat = a.toNat + t.size by omega] at e
  rw [← e]
  conv => lhs; rw [← List.take_append_drop a.toNat (bytesOf s)]
  congr 1
  have : (bytesOf s).drop (a.toNat + t.size) = ((bytesOf s).drop a.toNat).drop t.size := by rw [List.drop_drop]
  rw [this, List.drop_take, show a.toNat + t.size - a.toNat = t.size by omega, List.take_append_drop]
theorem move_eqv {g : Int} {rels : List ByteArray} {s v : ByteArray} {m : S52} {l : List S59} (hr : relsL rels) (hg : 1 ≤ g ∧ g ≤ 8) (hs : s.size ≤ 100000) (hL : allL (bytesOf s)) (h : moveS g rels s m = some (v, l)) :
    Eqv (diskL rels l ++ bytesOf v) (bytesOf s) := by
  have ht : ∀ n, allL ((bytesOf s).take n) := fun n x hx => hL x (List.mem_of_mem_take hx)
  have hd : ∀ n, allL ((bytesOf s).drop n) := fun n x hx => hL x (List.mem_of_mem_drop hx)
  unfold moveS at h
  split at h
  · split at h
    · rename_i hc
      obtain ⟨rfl, rfl⟩ := Prod.mk.inj (Option.some.inj h)
      rw [bytesOf_repl, bytesOf_pair hc.2.2.1 (by omega)]
      have hl := letterB_isL hc.2.2.1 (by omega)
      show Eqv ([] ++ _) _
      rw [List.nil_append, Nat.add_zero, List.append_assoc]
      have := Eqv.left (xs := (bytesOf s).take m.f1.toNat) (eqv_forth (allL_one hl) ((bytesOf s).drop m.f1.toNat)) (ht _)
      rw [List.take_append_drop] at this
      exact this
    · cases h
  · split at h
    · split at h
      · rename_i hc
        obtain ⟨rfl, rfl⟩ := Prod.mk.inj (Option.some.inj h)
        rw [bytesOf_repl, bytesOf_nil, List.append_nil]
        show Eqv ([] ++ _) _
        rw [List.nil_append]
        have hb := bytes_two s m.f1.toNat (by omega)
        rw [show ((m.f1.toNat : Nat) : Int) = m.f1 by omega] at hb
        have hi := bt_isL hL (i := m.f1 + 1) (by omega) (by omega)
        have hca : bt s m.f1 = otherB (bt s (m.f1 + 1)) := canc_iff.1 hc.2.2
        conv => arg 2; rw [hb]
        rw [hca]
        exact (Eqv.left (xs := (bytesOf s).take m.f1.toNat) (eqv_back (allL_one hi) ((bytesOf s).drop (m.f1.toNat + 2))) (ht _)).symm
      · cases h
    · split at h
      · split at h
        · rename_i hc
          obtain ⟨rfl, rfl⟩ := Prod.mk.inj (Option.some.inj h)
          obtain ⟨hok, h0, h1⟩ := hc
          obtain ⟨A, hA, hrot⟩ := relM_split (rels := rels) (m := m)
          have hB := (before_L hr hok).2
          have hR := (relM_L hr hok).2
          have hAl : allL A := by rw [hA] at hR; exact allL_right hR
          have hrel := relOkM_iff.1 hok
          have hc := cellM_eqv hr hok hL hs (!m.f5)
          rw [side_neg hr m.f5 hrel.1 hrel.2.1] at hc
          rw [show sideS rels m.f3 m.f5 = relM rels m from rfl, hA, invL_app] at hc
          have hcl := cellL_L hr (cellM_L hr hok hL hs (!m.f5)).1
          rw [bytesOf_repl, hrot, diskL_cons, Nat.add_zero]
          show Eqv ((_ ++ []) ++ _) _
          rw [List.append_nil]
          refine (Eqv.app hc (Eqv.refl _) hcl).trans ?_
          simp only [List.append_assoc]
          have hp := ht m.f1.toNat
          have t1 := eqv_back hp (A ++ (bytesOf (beforeM rels m) ++ (bytesOf s).drop m.f1.toNat))
          have t2 := (eqv_back hB ((invL ((bytesOf s).take m.f1.toNat)) ++ ((bytesOf s).take m.f1.toNat ++ (A ++ (bytesOf (beforeM rels m) ++ (bytesOf s).drop m.f1.toNat))))).trans t1
          have t3 := (Eqv.left (xs := invL A) t2 (allL_inv hAl)).trans (eqv_back hAl _)
          have t4 := (Eqv.left (xs := invL (bytesOf (beforeM rels m))) t3 (allL_inv hB)).trans (eqv_back hB _)
          have t5 := Eqv.left (xs := (bytesOf s).take m.f1.toNat) t4 hp
          rw [List.take_append_drop] at t5
          exact t5
        · cases h
      · split at h
        · split at h
          · rename_i hc
            obtain ⟨rfl, rfl⟩ := Prod.mk.inj (Option.some.inj h)
            obtain ⟨hok, h0, h1, hpre⟩ := hc
            obtain ⟨A, hA, hrot⟩ := relM_split (rels := rels) (m := m)
            have hB := (before_L hr hok).2
            have hR := (relM_L hr hok).2
            have hAl : allL A := by rw [hA] at hR; exact allL_right hR
            have hrel := relOkM_iff.1 hok
            have hc := cellM_eqv hr hok hL hs m.f5
            rw [show sideS rels m.f3 m.f5 = relM rels m from rfl, hA] at hc
            have hcl := cellL_L hr (cellM_L hr hok hL hs m.f5).1
            have hby := bytes_pref h0 h1 hpre
            rw [hrot, rotM_len hok] at hby
            rw [bytesOf_repl, diskL_cons, bytesOf_nil, List.append_nil]
            show Eqv ((_ ++ []) ++ _) _
            rw [List.append_nil]
            refine (Eqv.app hc (Eqv.refl _) hcl).trans ?_
            simp only [List.append_assoc]
            have hp := ht m.f1.toNat
            have t1 := eqv_back hp ((bytesOf s).drop (m.f1.toNat + (relM rels m).size))
            have t2 := Eqv.left (xs := A) (Eqv.left (xs := bytesOf (beforeM rels m)) t1 hB) hAl
            have t3 := (eqv_back hB _).trans t2
            have t4 := Eqv.left (xs := (bytesOf s).take m.f1.toNat) t3 hp
            conv => arg 2; rw [hby]
            simp only [List.append_assoc]
            exact t4
          · cases h
        · cases h
end H
end Go.Proofs.Ytmmichdlgjcmoaa.PAll
