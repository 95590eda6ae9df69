import Derived.Test.YtehbekgmemebjaaDoorPvH
namespace Go.Proofs.YtehbekgmemebjaaDoorEv
open Go
set_option linter.unusedVariables false
set_option linter.unusedSimpArgs false
def zed (A : AState) (zero : List Value) (t : Ty) : Option (Pe A.ts → t.den) := match cAs zero with
  | some l => if t.isAgg then exS A l t else (match l with
    | [a] => exA A a t
    | _ => none)
  | none => none
def trMk (A : AState) (d : Option Nat) (t : Ty) (ty : Nat) (zero : Array Value) (size bytes : Nat) (len cap : Operand) : Option (Nx A) := if t.w = size ∧ 0 < size ∧ zero.size = size then (match zed A zero.toList t, exO A len (.int .i64), exO A cap (.int .i64) with
  | some z, some f, some g => some (nxP ⟨.sl t :: A.ts, setS A.sl d (.v (.a (.hd A.ob.length))), A.ob ++ [.sl t ty A.ts.length]⟩ (fun e => (0 : Int) ≤ f e ∧ (f e : Int) ≤ g e ∧ (g e : Int) * bytes ≤ 140737488355328 ∧ (g e : Int) ≤ 140737488355328) fun e => (List.replicate (f e).toNat (z e), e))
  | _, _, _ => none) else none
def trConvSB (A : AState) (d : Option Nat) (ty : Nat) (x : Operand) : Option (Nx A) := match exO A x .str with
  | some f => some (nxT ⟨.sl (.int .u8) :: A.ts, setS A.sl d (.v (.a (.hd A.ob.length))), A.ob ++ [.sl (.int .u8) ty A.ts.length]⟩ fun e => (strI (f e), e))
  | none => none
def cutL {α : Type} (l : List α) (lo hi : Option Int) : Option (List α) := (bndHi l.length l.length hi).bind fun h => (bndLo h lo).bind fun i => some ((l.take h).drop i)
def trSlc (A : AState) (d : Option Nat) (size : Nat) (x : Operand) (lo hi : Option Operand) : Option (Nx A) := match opA A x, exI? A lo, exI? A hi with
  | some (.a (.hd j)), some g, some g' => match A.ob[j]? with
    | some (.sl t ty l) => match lvT A.ts l (.sl t) with
      | some f => if t.w = size then some (nxB ⟨.sl t :: A.ts, setS A.sl d (.v (.a (.hd A.ob.length))), A.ob.set j .dead ++ [.sl t ty A.ts.length]⟩ (fun e => cutL (f e) (g e) (g' e)) fun e y => (y, e)) else none
      | none => none
    | _ => none
  | some (.a a), some g, some g' => match tyA A a with
    | some (.sl t) => match exA A a (.sl t) with
      | some f => if t.w = size then some (puT A d (.sl t) fun e => if (f e).isEmpty = true then none else cutL (f e) (g e) (g' e)) else none
      | none => none
    | _ => none
  | _, _, _ => none
def bldA (A : AState) (places : Nat → Option (Nat × Nat)) : List (Nat × Operand) → List At → Option (List At)
  | [], l => some l
  | (i, x) :: r, l => match places i, opA A x with
    | some (o, sz), some v => match widA A (atsV v), repA A l o (atsV v) with
      | some m, some l' => if m = sz then bldA A places r l' else none
      | _, _ => none
    | _, _ => none
def trBuild (A : AState) (d : Option Nat) (zero : Array Value) (places : Array (Nat × Nat)) (parts : Array (Nat × Operand)) : Option (Nx A) := match cAs zero.toList with
  | some l => match bldA A (fun i => places[i]?) parts.toList l with
    | some l' => some (stA A d (.v (.g l')))
    | none => none
  | none => none
def bslA (A : AState) (t : Ty) (n : Nat) : List (Nat × Operand) → (Pe A.ts → List t.den) → Option (Pe A.ts → List t.den)
  | [], f => some f
  | (i, x) :: r, f => if i < n then (match opA A x with
    | some v => match exV A v t with
      | some y => bslA A t n r fun e => (f e).set i (y e)
      | none => none
    | none => none) else none
def trBsl (A : AState) (d : Option Nat) (t : Ty) (ty : Nat) (zero : Array Value) (size len : Nat) (parts : Array (Nat × Operand)) : Option (Nx A) := if t.w = size ∧ 0 < size ∧ zero.size = size then (match zed A zero.toList t with
  | some z => match bslA A t len parts.toList (fun e => List.replicate len (z e)) with
    | some f => some (nxT ⟨.sl t :: A.ts, setS A.sl d (.v (.a (.hd A.ob.length))), A.ob ++ [.sl t ty A.ts.length]⟩ fun e => (f e, e))
    | none => none
  | none => none) else none
section
variable {H0 : Hp} {Z0 Z : Nat → Prop} {A : AState} {e : Pe A.ts} {s : St} {hv : Nat → Value} {d : Option Nat} {nx : Nx A}
theorem zed_ok {H : Hp} {Z : Nat → Prop} {zero : List Value} {t : Ty} {z : Pe A.ts → t.den} (h : zed A zero t = some z) : Rep H Z t (z e) zero := by
  unfold zed at h
  split at h
  · rename_i l hl
    have h1 := cAs_ok (c := ⟨H, Z, fun _ => .nilFunc⟩) (e := e) (n := 0) hl
    split at h
    · exact exS_ok h h1
    · split at h
      · exact exA_ok h h1.one
      · cases h
  · cases h
theorem rep_flat_get (z : List Value) (hz : 0 < z.length) : ∀ (n i : Nat), i < n * z.length → (List.replicate n z).flatten[i]? = z[i % z.length]? := by
  intro n
  induction n with
  | zero => intro i h; omega
  | succ n ih =>
    intro i h
    rw [List.replicate_succ, List.flatten_cons]
    by_cases hi : i < z.length
    · rw [List.getElem?_append_left hi, Nat.mod_eq_of_lt hi]
    · rw [List.getElem?_append_right (by omega), ih (i - z.length) (by rw [Nat.add_mul] at h; omega), ← Nat.mod_eq_sub_mod (by omega)]
theorem bCells_eq (zero : Array Value) (n : Nat) (h : 0 < zero.size) : (bCells zero (n * zero.size)).toList = (List.replicate n zero.toList).flatten := by
  have hl : (List.replicate n zero.toList).flatten.length = n * zero.size := by simp
  apply List.ext_getElem?
  intro i
  by_cases hi : i < n * zero.size
  · rw [rep_flat_get zero.toList (by simpa using h) n i (by simpa using hi)]
    have hm : i % zero.size < zero.size := Nat.mod_lt _ h
    simp [bCells, hi, hm]
  · rw [List.getElem?_eq_none (by simp [bCells]; omega), List.getElem?_eq_none (by omega)]
theorem hdOK {n : Nat} {v : Value} {c : Hp} {ts : List Ty} {e : Pe ts} (h : ∃ base len k, v = .slice base len k) : AVOK ⟨c, Z, upH hv n v⟩ e (n + 1) (.v (.a (.hd n))) v := by
  obtain ⟨base, len, k, rfl⟩ := h
  exact ⟨by omega, ⟨base, len, k, upH_at _ _⟩, by show [_] = [upH hv n _ n]; rw [upH_at]⟩
theorem newOwn (hs : SemD H0 Z0 A e s Z hv) {t : Ty} {ty : Nat} {l : List t.den} {ps : List (List Value)} {cs rest : List Value} {u : UT} {k : Nat} (hr : All2 (Rep s.H Z t) l ps) (hc : cs = ps.flatten ++ rest) (hk : k * t.w ≤ cs.length) (hl : l.length ≤ k) (hu : u.u = 0 ∨ u.u = t.w ∧ u.ty = ty) (hw : 0 < t.w) :
    ∃ Z' hv', SemD H0 Z0 ⟨.sl t :: A.ts, setS A.sl d (.v (.a (.hd A.ob.length))), A.ob ++ [.sl t ty A.ts.length]⟩ (l, e) (s.nx (s.H.new (.cells cs u false)) d (.slice (some ⟨s.H.size, 0, none⟩) l.length k)) Z' hv' := by
  refine ⟨Z, _, hs.grow (Ex.push e _) (Kept.new _ _) (o := .sl t ty A.ts.length) (v0 := .slice (some ⟨s.H.size, 0, none⟩) l.length k) ?_ (fun b hb => by cases hb; exact Nat.le_refl _) fun _ => hdOK ⟨_, _, _, rfl⟩⟩
  refine ⟨_, lk_top e _, .inr ⟨s.H.size, 0, none, k, cs, u, ps, rest, rfl, by simp, hs.keep.1, by simp only [Hp.size_new]; omega, fun hz => absurd (hs.zs _ hz) (Nat.lt_irrefl _), by simp only [Hp.get_new, if_true], hc, ?_, by omega, hl, hu, hw⟩⟩
  exact hr.mono fun _ _ => Rep.mono (fun _ h => h) (fun c hc => by rw [Hp.get_new, if_neg (by rintro rfl; exact absurd (hs.zs _ hc) (Nat.lt_irrefl _))]) _ _ _
theorem trMk_ok (hs : SemD H0 Z0 A e s Z hv) {t : Ty} {ty : Nat} {zero : Array Value} {size bytes : Nat} {len cap : Operand} (h : trMk A d t ty zero size bytes len cap = some nx) {e' : Pe nx.B.ts} (he : nx.F e = some e') : Did H0 Z0 A s d (.mkslice ty zero size bytes len cap) nx.B e' := by
  unfold trMk at h
  split at h
  · rename_i hw
    obtain ⟨rfl, hw0, hzs⟩ := hw
    split at h
    · rename_i z f g hz hf hg
      cases h
      simp only [nxP, nxB, nxQ, nxT] at he
      split at he
      · rename_i hr
        cases he
        have hzr := zed_ok (H := s.H) (Z := Z) (e := e) hz
        obtain ⟨F, hF⟩ : ∃ F : Int, F = f e := ⟨_, rfl⟩
        obtain ⟨G, hG⟩ : ∃ G : Int, G = g e := ⟨_, rfl⟩
        have r1 : 0 ≤ F := by rw [hF]; exact hr.1
        have r2 : F ≤ G := by rw [hF, hG]; exact hr.2.1
        have hlen : (List.replicate (f e).toNat (z e)).length = (f e).toNat := by simp
        have hcells : (bCells zero ((g e).toNat * t.w)).toList = (List.replicate (f e).toNat zero.toList).flatten ++ (List.replicate ((g e).toNat - (f e).toNat) zero.toList).flatten := by
          rw [← hzs, bCells_eq zero _ (by omega), ← List.flatten_append, List.replicate_append_replicate]
          congr 2; rw [← hF, ← hG]; omega
        have := newOwn (d := d) (ty := ty) (u := ⟨0, ty, true⟩) (k := (g e).toNat) hs (All2.replicate hzr (f e).toNat) hcells (by simp [bCells]) (by rw [hlen, ← hF, ← hG]; omega) (.inl rfl) hw0
        rw [hlen] at this
        refine ⟨_, _, ?_, (fun h => by simp [reads, hfree] at h), this⟩
        simp only [evOp, exO_int hs hf, exO_int hs hg]
        rw [if_pos hr]
      · cases he
    · cases h
  · cases h
theorem trConvSB_ok (hs : SemD H0 Z0 A e s Z hv) {ty : Nat} {x : Operand} (h : trConvSB A d ty x = some nx) {e' : Pe nx.B.ts} (he : nx.F e = some e') : Did H0 Z0 A s d (.convSB ty x) nx.B e' := by
  unfold trConvSB at h
  split at h
  · rename_i f hf
    cases h; cases he
    have hlen : (strI (f e)).length = (f e).size := by simp only [strI, List.length_map]; rfl
    have := newOwn (d := d) (ty := ty) (u := ⟨1, ty, false⟩) (k := (f e).size) (cs := strB (f e)) (rest := []) hs (strI_reps (f e).data.toList) (by rw [strB_flat, List.append_nil]; rfl) (by
      have : (strB (f e)).length = (f e).size := by simp only [strB, List.length_map]; rfl
      rw [this]; exact Nat.le_of_eq (Nat.mul_one _)) (Nat.le_of_eq hlen) (.inr ⟨rfl, rfl⟩) Nat.one_pos
    refine ⟨.slice (some ⟨s.H.size, 0, none⟩) (f e).size (f e).size, s.H.new (.cells (strB (f e)) ⟨1, ty, false⟩ false), ?_, (fun h => by simp [reads, hfree] at h), ?_⟩
    · simp only [evOp, exO_str hs hf]
    · have h2 : (List.map (fun b => ((UInt8.toNat b : Nat) : Int)) (f e).data.toList).length = (f e).size := hlen
      rw [h2] at this
      exact this
  · cases h
theorem bnd_le {n k h : Nat} {i : Option Int} (hk : n ≤ k) (e : bndHi n n i = some h) : bndHi n k i = some h ∧ h ≤ n := by
  cases i with
  | none => cases e; exact ⟨rfl, Nat.le_refl _⟩
  | some i =>
    simp only [bndHi] at e ⊢
    split at e
    · rename_i hb
      cases e
      rw [if_pos (by omega)]
      exact ⟨rfl, by omega⟩
    · cases e
theorem bndLo_le {h l : Nat} {i : Option Int} (e : bndLo h i = some l) : l ≤ h := by
  cases i with
  | none => cases e; exact Nat.zero_le _
  | some i =>
    simp only [bndLo] at e
    split at e
    · cases e; omega
    · cases e
theorem cut_reps {H : Hp} {Z : Nat → Prop} {t : Ty} {l : List t.den} {ps : List (List Value)} {bc rest : List Value} {o h i : Nat} (hl : All2 (Rep H Z t) l ps) (hd : bc.drop o = ps.flatten ++ rest) (hh : h ≤ l.length) (hi : i ≤ h) :
    ∃ ps' rest', All2 (Rep H Z t) ((l.take h).drop i) ps' ∧ bc.drop (o + i * t.w) = ps'.flatten ++ rest' := by
  have hpl := hl.length
  refine ⟨(ps.take h).drop i, (ps.drop h).flatten ++ rest, (hl.take h).drop i, ?_⟩
  rw [← List.drop_drop, hd]
  have e1 : ps = (ps.take i) ++ ((ps.take h).drop i ++ ps.drop h) := by
    rw [← List.append_assoc]
    have : ps.take i ++ (ps.take h).drop i = ps.take h := by
      have := List.take_append_drop i (ps.take h)
      rw [List.take_take, Nat.min_eq_left hi] at this
      exact this
    rw [this, List.take_append_drop]
  have e2 : (ps.take i).flatten.length = i * t.w := by
    rw [reps_len (hl.take i), List.length_take, Nat.min_eq_left (by omega)]
  have e3 : ps.flatten ++ rest = (ps.take i).flatten ++ (((ps.take h).drop i).flatten ++ ((ps.drop h).flatten ++ rest)) := by
    calc ps.flatten ++ rest = ((ps.take i) ++ ((ps.take h).drop i ++ ps.drop h)).flatten ++ rest := by rw [← e1]
      _ = _ := by simp only [List.flatten_append, List.append_assoc]
  rw [e3, ← e2, List.drop_left]
theorem trSlc_ok (hs : SemD H0 Z0 A e s Z hv) {size : Nat} {x : Operand} {lo hi : Option Operand} (h : trSlc A d size x lo hi = some nx) {e' : Pe nx.B.ts} (he : nx.F e = some e') : Did H0 Z0 A s d (.slc size x lo hi none) nx.B e' := by
  unfold trSlc at h
  split at h
  · rename_i j g g' hx hg hg'
    split at h
    · rename_i t ty l hj
      split at h
      · rename_i f hf
        split at h
        · rename_i hw
          subst hw
          cases h
          simp only [nxP, nxB, nxQ, nxT] at he
          obtain ⟨y, hy, he⟩ := Option.bind_eq_some_iff.1 he
          cases he
          obtain ⟨hh, b1, hy⟩ := Option.bind_eq_some_iff.1 hy
          obtain ⟨i, b2, hy⟩ := Option.bind_eq_some_iff.1 hy
          cases hy
          obtain ⟨_, _, h1⟩ := opA_a hs hx
          simp only [List.cons.injEq, and_true] at h1
          have h1' : s.env x = hv j := h1
          have ho := lv_rep hs (i := 0) hj hf
          rcases ho with ⟨h3, h4⟩ | ⟨b, o, sp, k, bc, u, ps, rest, h3, q1, q2, q3, q4, q5, q6, q7, q8, q9, q10, q11⟩
          · rw [h4] at b1 ⊢
            obtain ⟨b3, b4⟩ := bnd_le (Nat.le_refl _) b1
            have h0 : hh = 0 := by simpa using b4
            subst h0
            have i0 : i = 0 := by have := bndLo_le b2; omega
            subst i0
            refine ⟨.slice none 0 0, s.H, ?_, fun _ _ => by simp [eqV], Z, _, hs.move (Ex.push e _) hj rfl (Nat.le_refl _) (fun _ _ _ => rfl) (o' := .sl t ty A.ts.length) (v0 := .slice none 0 0) ⟨_, lk_top e _, .inl ⟨rfl, by simp⟩⟩ (fun c hc => by cases hc) fun _ => hdOK ⟨_, _, _, rfl⟩⟩
            have b5 := bounds_ok hs hg hg' (len := 0) (cap := 0) b1 b2
            simp only [evOp, h1', h3, sliceO, Option.map_none, b5, Option.bind_eq_bind, Option.bind_some, Option.map_some]
          · obtain ⟨b3, b4⟩ := bnd_le q9 b1
            have b6 := bndLo_le b2
            obtain ⟨ps', rest', r1, r2⟩ := cut_reps q7 q6 b4 b6
            have hlen : (((f e).take hh).drop i).length = hh - i := by simp; omega
            have b5 := bounds_ok hs hg hg' b3 b2
            refine ⟨.slice (some ⟨b, o + i * t.w, sp⟩) (hh - i) (k - i), s.H, ?_, fun _ _ => by simp [eqV], Z, _, hs.move (Ex.push e _) hj rfl (Nat.le_refl _) (fun _ _ _ => rfl) (o' := .sl t ty A.ts.length) (v0 := .slice (some ⟨b, o + i * t.w, sp⟩) (hh - i) (k - i)) ⟨_, lk_top e _, .inr ⟨b, o + i * t.w, sp, k - i, bc, u, ps', rest', by rw [hlen], q1, q2, q3, q4, q5, r2, r1, ?_, by rw [hlen]; omega, q10, q11⟩⟩ (fun c hc => .inr (by rw [h3]; exact hc)) fun _ => hdOK ⟨_, _, _, rfl⟩⟩
            · simp only [evOp, h1', h3, sliceO, Option.map_none, b5, Option.bind_eq_bind, Option.bind_some, q5, if_neg q1]
              rw [if_pos (q10.imp_right And.left)]
              simp
            · have : (k - i) * t.w + i * t.w = k * t.w := by rw [← Nat.add_mul]; congr 1; omega
              omega
        · cases h
      · cases h
    · cases h
  · rename_i a g g' hna hx hg hg'
    split at h
    · rename_i t ht
      split at h
      · rename_i f hf
        split at h
        · rename_i hw
          subst hw
          cases h
          obtain ⟨z, hz, rfl⟩ := puT_F he
          split at hz
          · cases hz
          · rename_i hne
            obtain ⟨hh, b1, hz⟩ := Option.bind_eq_some_iff.1 hz
            obtain ⟨i, b2, hz⟩ := Option.bind_eq_some_iff.1 hz
            cases hz
            have hne' : f e ≠ [] := by intro h0; rw [h0] at hne; exact hne rfl
            obtain ⟨base, k, h1, h2⟩ := exA_ok hf (opA_a hs hx)
            simp only [List.cons.injEq, and_true] at h1
            rcases h2 with ⟨h2, _⟩ | ⟨b, o, sp, bc, u, ro, ps, rest, rfl, zb, hgb, hd, hl, hu, hw0, hlk⟩
            · exact absurd h2 hne'
            · have hgb' : s.H.get b = some (.cells bc u ro) := hgb
              obtain ⟨b3, b4⟩ := bnd_le hlk b1
              have b6 := bndLo_le b2
              obtain ⟨ps', rest', r1, r2⟩ := cut_reps hl hd b4 b6
              have hlen : (((f e).take hh).drop i).length = hh - i := by simp; omega
              have b5 := bounds_ok hs hg hg' b3 b2
              have rep : ∀ k', hh - i ≤ k' → Rep s.H Z (.sl t) (((f e).take hh).drop i) [.slice (some ⟨b, o + i * t.w, sp⟩) (hh - i) k'] := fun k' hk' =>
                ⟨_, k', by rw [hlen], .inr ⟨b, o + i * t.w, sp, bc, u, ro, ps', rest', rfl, zb, hgb, r2, r1, hu, hw0, by rw [hlen]; exact hk'⟩⟩
              have hn0 : ((f e).length == 0) = false := by
                cases hfe : f e with
                | nil => exact absurd hfe hne'
                | cons _ _ => rfl
              by_cases hsp : sp = some 2
              · subst hsp
                refine ⟨_, s.H, ?_, fun _ _ => eqV_rep (rep (hh - i) (Nat.le_refl _)) rfl 3, Z, hv, puT_ok hs (rep (hh - i) (Nat.le_refl _))⟩
                simp only [evOp, h1, sliceO, Option.map_none, b5, Option.bind_eq_bind, Option.bind_some, if_true, hn0]
                simp
              · refine ⟨_, s.H, ?_, fun _ _ => eqV_rep (rep (k - i) (by omega)) rfl 3, Z, hv, puT_ok hs (rep (k - i) (by omega))⟩
                simp only [evOp, h1, sliceO, Option.map_none, b5, Option.bind_eq_bind, Option.bind_some, if_neg hsp, hgb']
                rw [if_pos (by rcases hu with hu | hu; exact absurd hu hsp; exact hu)]
                simp
        · cases h
      · cases h
    · cases h
  · cases h
theorem fold_set (off : Nat) : ∀ (L : List Value) (k : Nat) (cs : Array Value), ((L.zipIdx k).foldl (fun cs (x : Value × Nat) => cs.setIfInBounds (off + x.2) x.1) cs).toList = setL cs.toList (off + k) L
  | [], k, cs => rfl
  | v :: r, k, cs => by
    rw [List.zipIdx_cons, List.foldl_cons, fold_set off r (k + 1)]
    simp only [setL, Array.toList_setIfInBounds]
    rfl
theorem fill_step {place : Nat → Option (Nat × Nat)} {cs : Array Value} {i o sz : Nat} {v : Value} {r : List (Nat × Value)} (hp : place i = some (o, sz)) (h1 : v.cells.size = sz) (h2 : o + v.cells.size ≤ cs.size) :
    ∃ cs', Instr.fill place cs ((i, v) :: r) = Instr.fill place cs' r ∧ cs'.toList = setL cs.toList o v.cells.toList := by
  refine ⟨Array.foldl (fun cs (x : Value × Nat) => match x with
    | (c, j) => cs.setIfInBounds (o + j) c) cs v.cells.zipIdx, ?_, ?_⟩
  · rw [Instr.fill.eq_2]
    simp only [hp]
    rw [if_neg (by simp [h1]; omega)]
  · rw [← Array.foldl_toList, Array.toList_zipIdx]
    exact fold_set o v.cells.toList 0 cs
theorem bldA_ok (hs : SemD H0 Z0 A e s Z hv) {places : Nat → Option (Nat × Nat)} : ∀ {parts : List (Nat × Operand)} {l l' : List At} {cs : Array Value}, bldA A places parts l = some l' → AtsOK ⟨s.H, Z, hv⟩ e A.ob.length l cs.toList →
    ∃ out, Instr.fill places cs (parts.map fun (i, x) => (i, s.env x)) = some out ∧ AtsOK ⟨s.H, Z, hv⟩ e A.ob.length l' out.toList
  | [], l, l', cs, h, ha => by
    simp only [bldA] at h
    cases h
    exact ⟨cs, rfl, ha⟩
  | (i, x) :: r, l, l', cs, h, ha => by
    simp only [bldA] at h
    split at h
    · rename_i o sz v hp hv'
      split at h
      · rename_i m l1 hm hl1
        split at h
        · rename_i hms
          have hc := opA_cells hs hv'
          have hlen := widA_ok hm hc
          obtain ⟨q1, q2⟩ := repA_ok hl1 ha hc
          rw [← setL_eq _ _ _ q1] at q2
          obtain ⟨cs', e1, e2⟩ := fill_step (r := r.map fun (i, x) => (i, s.env x)) (cs := cs) (v := s.env x) hp (by rw [← hms, ← hlen]; simp) (by simpa using q1)
          rw [← e2] at q2
          obtain ⟨out, o1, o2⟩ := bldA_ok hs h q2
          exact ⟨out, by rw [List.map_cons, e1, o1], o2⟩
        · cases h
      · cases h
    · cases h
theorem trBuild_ok (hs : SemD H0 Z0 A e s Z hv) {zero : Array Value} {places : Array (Nat × Nat)} {parts : Array (Nat × Operand)} (h : trBuild A d zero places parts = some nx) {e' : Pe nx.B.ts} (he : nx.F e = some e') : Did H0 Z0 A s d (.build zero places parts) nx.B e' := by
  unfold trBuild at h
  split at h
  · rename_i l hl
    split at h
    · rename_i l' hl'
      cases h; cases he
      obtain ⟨out, o1, o2⟩ := bldA_ok hs hl' (cAs_ok (c := ⟨s.H, Z, hv⟩) (e := e) (n := A.ob.length) hl)
      refine did_set rfl hs (v := .agg out) ⟨out.toList, by simp, o2⟩ ?_
      have : (parts.map fun (x : Nat × Operand) => (x.1, s.env x.2)).toList = parts.toList.map fun (i, x) => (i, s.env x) := by simp
      simp only [evOp, this, o1, Option.map_some]
    · cases h
  · cases h
theorem bslA_ok (hs : SemD H0 Z0 A e s Z hv) {t : Ty} {n : Nat} (hw : 0 < t.w) : ∀ {parts : List (Nat × Operand)} {f g : Pe A.ts → List t.den} {ps : List (List Value)} {cs : Array Value}, bslA A t n parts f = some g → (f e).length = n → All2 (Rep s.H Z t) (f e) ps → cs.toList = ps.flatten →
    ∃ out qs, Instr.fill (fun i => some (i * t.w, t.w)) cs (parts.map fun (i, x) => (i, s.env x)) = some out ∧ All2 (Rep s.H Z t) (g e) qs ∧ out.toList = qs.flatten ∧ (g e).length = n
  | [], f, g, ps, cs, h, hn, ha, hc => by
    simp only [bslA] at h
    cases h
    exact ⟨cs, ps, rfl, ha, hc, hn⟩
  | (i, x) :: r, f, g, ps, cs, h, hn, ha, hc => by
    simp only [bslA] at h
    split at h
    · rename_i hi
      split at h
      · rename_i v hv'
        split at h
        · rename_i y hy
          have hcl := exV_cells hy (opA_ok hs hv')
          have hlen := hcl.len
          have hpl := reps_len ha
          have hle : i * t.w + t.w ≤ ps.flatten.length := by
            rw [hpl, hn]
            have : (i + 1) * t.w ≤ n * t.w := Nat.mul_le_mul_right _ hi
            rw [Nat.add_mul] at this
            omega
          obtain ⟨cs', e1, e2⟩ := fill_step (place := fun i => some (i * t.w, t.w)) (i := i) (r := r.map fun (i, x) => (i, s.env x)) (cs := cs) (v := s.env x) rfl (by rw [← hlen]; simp) (by
            have : cs.size = ps.flatten.length := by rw [← hc]; simp
            rw [this]; rw [Array.length_toList] at hlen; omega)
          have hx : (f e)[i]? = some ((f e)[i]'(by omega)) := List.getElem?_eq_getElem (by omega)
          obtain ⟨ps', w1, w2⟩ := reps_set (vs := (s.env x).cells.toList) (off := 0) i (y := y e) (rest := []) ha hx (fun c hc' => by
            have := hc'.len
            refine ⟨by omega, ?_⟩
            rw [List.take_zero, List.nil_append, List.drop_of_length_le (by omega), List.append_nil]
            exact hcl)
          simp only [List.append_nil, Nat.add_zero] at w2
          rw [hc, setL_eq _ _ _ (by omega), w2] at e2
          obtain ⟨out, qs, o1, o2, o3, o4⟩ := bslA_ok hs hw (f := fun e => (f e).set i (y e)) h (by simp [hn]) w1 e2
          exact ⟨out, qs, by rw [List.map_cons, e1, o1], o2, o3, o4⟩
        · cases h
      · cases h
    · cases h
theorem trBsl_ok (hs : SemD H0 Z0 A e s Z hv) {t : Ty} {ty : Nat} {zero : Array Value} {size len : Nat} {parts : Array (Nat × Operand)} (h : trBsl A d t ty zero size len parts = some nx) {e' : Pe nx.B.ts} (he : nx.F e = some e') : Did H0 Z0 A s d (.bslice ty zero size len parts) nx.B e' := by
  unfold trBsl at h
  split at h
  · rename_i hw
    obtain ⟨rfl, hw0, hzs⟩ := hw
    split at h
    · rename_i z hz
      split at h
      · rename_i f hf
        cases h; cases he
        have hzr := zed_ok (H := s.H) (Z := Z) (e := e) hz
        obtain ⟨out, qs, o1, o2, o3, o4⟩ := bslA_ok (cs := bCells zero (len * t.w)) hs hw0 hf (by simp) (All2.replicate hzr len) (by rw [← hzs, bCells_eq zero _ (by omega)])
        have := newOwn (d := d) (ty := ty) (u := ⟨0, ty, true⟩) (k := len) (cs := out.toList) (rest := []) hs o2 (by rw [o3, List.append_nil]) (by rw [o3, reps_len o2, o4]; exact Nat.le_refl _) (by rw [o4]; exact Nat.le_refl _) (.inl rfl) hw0
        rw [o4] at this
        refine ⟨_, _, ?_, (fun h => by simp [reads, hfree] at h), this⟩
        have e1 : (parts.map fun (x : Nat × Operand) => (x.1, s.env x.2)).toList = parts.toList.map fun (i, x) => (i, s.env x) := by simp
        simp only [evOp, e1, o1, Option.map_some]
      · cases h
    · cases h
  · cases h
end
end Go.Proofs.YtehbekgmemebjaaDoorEv
