import Derived.Test.YtehbekgmemebjaaDoorPvJ
namespace Go.Proofs.YtehbekgmemebjaaDoorEv
open Go
set_option linter.unusedVariables false
set_option linter.unusedSimpArgs false
def hdO (A : AState) (x : Operand) : List Nat := match opA A x with
  | some v => (atsV v).filterMap fun a => match a with
    | .hd j => some j
    | _ => none
  | none => []
def preF {K : Caller} {G : Hp → Prop} (PT : List (PC K G)) (A : AState) : AOp → List Nat
  | .call (.func f) args => match findP PT f with
    | some p => if flatR p.res then [] else args.toList.flatMap (hdO A)
    | none => []
  | .store _ a x => match opA A a with
    | some (.a (.ep _ _ _ _)) => hdO A x
    | _ => []
  | .bslice _ _ _ _ parts => parts.toList.flatMap fun p => hdO A p.2
  | _ => []
def trOp {K : Caller} {G : Hp → Prop} (PT : List (PC K G)) (TT : Nat → Option Ty) (k : Nat) (A : AState) (d : Option Nat) : AOp → Option (Nx A)
  | .mv x => trMv A d x
  | .pick c x y => trPick A d c x y
  | .new ty zero => match TT ty with
    | some t => match trNewT A d t zero with
      | some nx => some nx
      | none => trNew A d zero
    | none => trNew A d zero
  | .box _ x => trBox A d x
  | .build z p q => trBuild A d z p q
  | .bslice ty zero size len parts => match TT ty with
    | some t => trBsl A d t ty zero size len parts
    | none => none
  | .load x => trLoad A d x
  | .loadA n x => trLoadA A d n x
  | .store n a x => match d with
    | none => trStore A n a x
    | some _ => none
  | .bin op x y => trBin A d op x y
  | .eq kind neg x y => trEq A d kind neg x y
  | .un op x => trUn A d op x
  | .convI k' x => trConvI A d k' x
  | .convBS x => trConvBS A d x
  | .convS x => trConvS A d x
  | .convSB ty x => trConvSB A d ty x
  | .mkslice ty zero size bytes len cap => match TT ty with
    | some t => trMk A d t ty zero size bytes len cap
    | none => none
  | .slc size x lo hi mx => match mx with
    | none => trSlc A d size x lo hi
    | some _ => none
  | .slcS x lo hi => trSlcS A d x lo hi
  | .off x n => trOff A d x n
  | .fld agg o n x => trFld A d agg o n x
  | .ixS size x i => trIxS A d size x i
  | .ixStr x i => trIxStr A d x i
  | .ixA n size x i => trIxA A d n size x i
  | .extract x i => trExtract A d x i
  | .nilchk x => trNil A d x
  | .iface t x => trIface A d t x
  | .call f args => match f with
    | .func f => match findP PT f with
      | some p => trCall k A d p args.toList
      | none => none
    | _ => none
  | .lenS x => trLenS A d x
  | .lenL x => trLenL A d x
  | .lenC n => some (stA A d (.v (.a (.cst (.int .i64 n)))))
  | .append ty size bytes s x => match TT ty with
    | some t => trAppend A d t ty size bytes s x
    | none => none
  | .mx x y => trMx A d x y
  | .mn x y => trMn A d x y
  | _ => none
section
variable {H0 : Hp} {Z0 Z : Nat → Prop} {A : AState} {e : Pe A.ts} {s : St} {hv : Nat → Value} {d : Option Nat} {nx : Nx A} {K : Caller} {G : Hp → Prop}
def Done (K : Caller) (H0 : Hp) (Z0 : Nat → Prop) (s : St) (d : Option Nat) (op : AOp) (B : AState) (e' : Pe B.ts) : Prop :=
  ∃ v H', evOpr K ⟨d, op, none⟩ s = some (.normal, s.nx H' d v) ∧ (reads op = true → H' = s.H) ∧ (reads op = true → hfree op = false → eqV 3 v v = true) ∧ ∃ Z' hv', SemD H0 Z0 B e' (s.nx H' d v) Z' hv'
theorem Did.done {op : AOp} {B : AState} {e' : Pe B.ts} (h : Did H0 Z0 A s d op B e') : Done K H0 Z0 s d op B e' := by
  obtain ⟨v, H', h1, h2, h3⟩ := h
  have he : evOpr K ⟨d, op, none⟩ s = some (.normal, s.nx H' d v) := by
    simp only [evOpr, wantedO, if_true, h1]
    rw [nx_eq]
  refine ⟨v, H', he, fun hr => ?_, h2, h3⟩
  have := (evOpr_reads_ok (k := K) (o := ⟨d, op, none⟩) hr he).1
  rwa [nx_H] at this
theorem trOp_ok {PT : List (PC K G)} {TT : Nat → Option Ty} {k : Nat} {op : AOp} (hs : SemD H0 Z0 A e s Z hv) (hG : G s.H) (h : trOp PT TT k A d op = some nx) {e' : Pe nx.B.ts} (he : nx.F e = some e') : Done K H0 Z0 s d op nx.B e' := by
  cases op <;> simp only [trOp, reduceCtorEq] at h
  case mv => exact (trMv_ok hs h he).done
  case pick => exact (trPick_ok hs h he).done
  case new =>
    split at h
    · split at h
      · rename_i h1
        cases h
        exact (trNewT_ok hs h1 he).done
      · exact (trNew_ok hs h he).done
    · exact (trNew_ok hs h he).done
  case box => exact (trBox_ok hs h he).done
  case build => exact (trBuild_ok hs h he).done
  case bslice =>
    split at h
    · exact (trBsl_ok hs h he).done
    · cases h
  case load => exact (trLoad_ok hs h he).done
  case loadA => exact (trLoadA_ok hs h he).done
  case store =>
    split at h
    · exact (trStore_ok hs h he).done
    · cases h
  case bin => exact (trBin_ok hs h he).done
  case eq => exact (trEq_ok hs h he).done
  case un => exact (trUn_ok hs h he).done
  case convI => exact (trConvI_ok hs h he).done
  case convBS => exact (trConvBS_ok hs h he).done
  case convS => exact (trConvS_ok hs h he).done
  case convSB => exact (trConvSB_ok hs h he).done
  case mkslice =>
    split at h
    · exact (trMk_ok hs h he).done
    · cases h
  case slc =>
    split at h
    · exact (trSlc_ok hs h he).done
    · cases h
  case slcS => exact (trSlcS_ok hs h he).done
  case off => exact (trOff_ok hs h he).done
  case fld => exact (trFld_ok hs h he).done
  case ixS => exact (trIxS_ok hs h he).done
  case ixStr => exact (trIxStr_ok hs h he).done
  case ixA => exact (trIxA_ok hs h he).done
  case extract => exact (trExtract_ok hs h he).done
  case nilchk => exact (trNil_ok hs h he).done
  case iface => exact (trIface_ok hs h he).done
  case call f args =>
    split at h
    · rename_i g
      split at h
      · rename_i p hp
        obtain ⟨v, H', h1, h2⟩ := trCall_ok hs hG h he
        have hf := findP_f hp
        subst hf
        refine ⟨v, H', ?_, (fun h => by simp [reads, hfree] at h), (fun h => by simp [reads, hfree] at h), h2⟩
        have e1 : (#[] : Array Value) ++ args.map s.env ++ #[] = (args.toList.map s.env).toArray := by cases args; simp
        simp only [evOpr, wantedO, if_true, evOp, St.env, e1]
        have e2 : (args.toList.map s.env).toArray = (args.toList.map s.env).toArray := rfl
        rw [show K p.f (args.toList.map s.env).toArray s.H = some (.ret v H') from h1]
        simp only
        rw [nx_eq]
      · cases h
    · cases h
  case lenS => exact (trLenS_ok hs h he).done
  case lenL => exact (trLenL_ok hs h he).done
  case lenC n =>
    cases h; cases he
    exact (did_set (v := .int .i64 n) rfl hs (show AVOK _ _ _ (.v (.a (.cst (.int .i64 n)))) _ from rfl) rfl : Did H0 Z0 A s d (.lenC n) _ _).done
  case append =>
    split at h
    · exact (trAppend_ok hs h he).done
    · cases h
  case mx => exact (trMx_ok hs h he).done
  case mn => exact (trMn_ok hs h he).done
theorem SemD.congr (h : SemD H0 Z0 A e s Z hv) {s' : St} (hg : ∀ d, s'.get d = s.get d) (hH : s'.H = s.H) (hds : s'.ds = s.ds) (hdf : s'.df = s.df) : SemD H0 Z0 A e s' Z hv :=
  ⟨hds.trans h.ds, hdf.trans h.df, by rw [hH]; exact h.keep, h.z0, by rw [hH]; exact h.zs, h.zf, by rw [hH]; exact h.ob, h.dj, fun d a ha => by rw [hH, hg]; exact h.sl d a ha⟩
theorem nx_same (s : St) (d : Nat) {v : Value} (hv : s.get d = v) : (∀ j, (s.nx s.H (some d) v).get j = s.get j) ∧ (s.nx s.H (some d) v).H = s.H ∧ (s.nx s.H (some d) v).ds = s.ds ∧ (s.nx s.H (some d) v).df = s.df :=
  ⟨fun j => by rw [nx_get]; split
               · rename_i h; subst h; exact hv.symm
               · rfl, nx_H _ _ _ _, nx_ds _ _ _ _, nx_df _ _ _ _⟩
theorem SemD.know (h : SemD H0 Z0 A e s Z hv) {d : Nat} {a : AV} (ha : AVOK ⟨s.H, Z, hv⟩ e A.ob.length a (s.get d)) : SemD H0 Z0 ⟨A.ts, setS A.sl (some d) a, A.ob⟩ e s Z hv := by
  obtain ⟨a1, a2, a3, a4⟩ := nx_same s d rfl
  exact (h.put (d := some d) (v := s.get d) fun _ => ha).congr (fun j => (a1 j).symm) a2.symm a3.symm a4.symm
end
inductive Md where
  | as
  | own (t : Ty) (ty : Nat)
  | shr (t : Ty)
structure Ac (A : AState) where
  ts : List Ty
  g : Pe A.ts → Pe ts
  om : List (Nat × Nat)
  ob : List Ob
def lookN : List (Nat × Nat) → Nat → Option Nat
  | [], _ => none
  | (a, b) :: r, j => if a = j then some b else lookN r j
def cnL {A : AState} (f : Ac A → At → Option (Ac A × At)) : Ac A → List At → Option (Ac A × List At)
  | c, [] => some (c, [])
  | c, a :: l => match f c a with
    | some (c1, a') => match cnL f c1 l with
      | some (c2, l') => some (c2, a' :: l')
      | none => none
    | none => none
def cnA {A : AState} : Nat → Ac A → At → Option (Ac A × At)
  | _, c, .pu i => match lv A.ts i with
    | some ⟨t, f⟩ => some (⟨t :: c.ts, fun e => (f e, c.g e), c.om, c.ob⟩, .pu c.ts.length)
    | none => none
  | _, c, .cst l => some (⟨l.ty :: c.ts, fun e => (l.den, c.g e), c.om, c.ob⟩, .pu c.ts.length)
  | _, c, .nil => some (c, .nil)
  | _, c, .fn f => some (c, .fn f)
  | _, c, .ifc t => some (c, .ifc t)
  | _, c, .hd j => match lookN c.om j with
    | some j' => some (c, .hd j')
    | none => match A.ob[j]? with
      | some (.sl t ty i) => match lvT A.ts i (.sl t) with
        | some f => some (⟨.sl t :: c.ts, fun e => (f e, c.g e), (j, c.ob.length) :: c.om, c.ob ++ [.sl t ty c.ts.length]⟩, .hd c.ob.length)
        | none => none
      | _ => none
  | n + 1, c, .bp j off => match lookN c.om j with
    | some j' => some (c, .bp j' off)
    | none => match A.ob[j]? with
      | some (.bx l) => match cnL (cnA n) c l with
        | some (c1, l') => match lookN c1.om j with
          | none => some (⟨c1.ts, c1.g, (j, c1.ob.length) :: c1.om, c1.ob ++ [.bx l']⟩, .bp c1.ob.length off)
          | some _ => none
        | none => none
      | _ => none
  | _, _, _ => none
def cnV1 {A : AState} (n : Nat) (c : Ac A) : AV1 → Option (Ac A × AV1)
  | .a x => match cnA n c x with
    | some (c1, x') => some (c1, .a x')
    | none => none
  | .g l => match cnL (cnA n) c l with
    | some (c1, l') => some (c1, .g l')
    | none => none
def cnS {A : AState} (n : Nat) : Ac A → List Nat → Option (Ac A × List (Nat × AV))
  | c, [] => some (c, [])
  | c, d :: r => match look A.sl d with
    | some (.v x) => match cnV1 n c x with
      | some (c1, x') => match cnS n c1 r with
        | some (c2, l) => some (c2, (d, .v x') :: l)
        | none => none
      | none => none
    | _ => none
def canon0 (A : AState) (ds : List Nat) : Option (Nx A) := match cnS 4 (⟨[], fun _ => (), [], []⟩ : Ac A) ds with
  | some (c, l) => some (nxT ⟨c.ts, l, c.ob⟩ fun e => c.g e)
  | none => none
section
variable {H0 : Hp} {Z0 Z : Nat → Prop} {A : AState} {e : Pe A.ts} {s : St} {hv : Nat → Value}
structure AcOK (A : AState) (e : Pe A.ts) (H : Hp) (Z : Nat → Prop) (N : Nat) (hv : Nat → Value) (c : Ac A) (hv' : Nat → Value) : Prop where
  a : ∀ j j', lookN c.om j = some j' → j' < c.ob.length ∧ hv' j' = hv j ∧ ∃ o, A.ob[j]? = some o ∧ o.live = true
  b : ∀ j', j' < c.ob.length → ∃ j o', lookN c.om j = some j' ∧ c.ob[j']? = some o' ∧ o'.live = true ∧ ObOK ⟨H, Z, hv'⟩ (c.g e) c.ob.length N (hv' j') o'
  i : ∀ j1 j2 j', lookN c.om j1 = some j' → lookN c.om j2 = some j' → j1 = j2
theorem ob_set {c : Ac A} {hv' : Nat → Value} {H : Hp} {N : Nat} (hc : AcOK A e H Z N hv c hv') {ts : List Ty} {g : Pe A.ts → Pe ts} (hx : Ex (c.g e) (g e)) {j : Nat} (hj : lookN c.om j = none) {o : Ob} (ho : A.ob[j]? = some o) (hl : o.live = true) (hsz : ∀ b, blk (hv j) = some b → ¬ Z b)
    {o' : Ob} (hl' : o'.live = true) (hz : ∀ j o b, A.ob[j]? = some o → o.live = true → blk (hv j) = some b → ¬ Z b)
    (hob : ObOK ⟨H, Z, upH hv' c.ob.length (hv j)⟩ (g e) (c.ob.length + 1) N (hv j) o') :
    AcOK A e H Z N hv ⟨ts, g, (j, c.ob.length) :: c.om, c.ob ++ [o']⟩ (upH hv' c.ob.length (hv j)) ∧ Grow ⟨H, Z, hv'⟩ ⟨H, Z, upH hv' c.ob.length (hv j)⟩ (c.g e) (g e) c.ob.length (c.ob ++ [o']).length := by
  have gr : Grow ⟨H, Z, hv'⟩ ⟨H, Z, upH hv' c.ob.length (hv j)⟩ (c.g e) (g e) c.ob.length (c.ob.length + 1) := ⟨fun _ h => h, fun _ _ => rfl, fun j hj => upH_lt _ hj, by omega, hx⟩
  have hlen : (c.ob ++ [o']).length = c.ob.length + 1 := by simp
  refine ⟨⟨?_, ?_, ?_⟩, by rw [hlen]; exact gr⟩
  · intro k k' hk
    simp only [lookN] at hk
    rw [hlen]
    split at hk
    · rename_i hjk
      cases hk
      subst hjk
      exact ⟨by omega, upH_at _ _, o, ho, hl⟩
    · obtain ⟨a1, a2, a3⟩ := hc.a k k' hk
      exact ⟨by omega, (upH_lt _ a1).trans a2, a3⟩
  · intro k' hk'
    rw [hlen] at hk' ⊢
    by_cases hk : k' = c.ob.length
    · subst hk
      refine ⟨j, o', by simp [lookN], by simp, hl', ?_⟩
      rw [upH_at]; exact hob
    · have hlt : k' < c.ob.length := by omega
      obtain ⟨k, o'', b1, b2, b3, b4⟩ := hc.b k' hlt
      refine ⟨k, o'', ?_, by rw [List.getElem?_append_left hlt]; exact b2, b3, ?_⟩
      · have hne : j ≠ k := by rintro rfl; rw [hj] at b1; cases b1
        simp only [lookN, if_neg hne]; exact b1
      · rw [upH_lt _ hlt]
        refine b4.mono gr (Nat.le_refl _) fun _ b hb => ⟨rfl, ?_⟩
        obtain ⟨_, e2, o3, e3, e4⟩ := hc.a k k' b1
        rw [e2] at hb
        exact hz k o3 b e3 e4 hb
  · intro j1 j2 j' h1 h2
    simp only [lookN] at h1 h2
    split at h1 <;> split at h2
    · rename_i a b; exact a.symm.trans b
    · cases h1
      have := (hc.a _ _ h2).1
      omega
    · cases h2
      have := (hc.a _ _ h1).1
      omega
    · exact hc.i _ _ _ h1 h2
theorem cnL_ok {H : Hp} {N : Nat} {f : Ac A → At → Option (Ac A × At)} (hf : ∀ (c c1 : Ac A) (a a' : At) (hv' : Nat → Value), AcOK A e H Z N hv c hv' → f c a = some (c1, a') → ∃ hv'', AcOK A e H Z N hv c1 hv'' ∧ Grow ⟨H, Z, hv'⟩ ⟨H, Z, hv''⟩ (c.g e) (c1.g e) c.ob.length c1.ob.length ∧ ∀ cs, AtOK ⟨H, Z, hv⟩ e A.ob.length a cs → AtOK ⟨H, Z, hv''⟩ (c1.g e) c1.ob.length a' cs) :
    ∀ (l : List At) (c c1 : Ac A) (l' : List At) (hv' : Nat → Value), AcOK A e H Z N hv c hv' → cnL f c l = some (c1, l') → ∃ hv'', AcOK A e H Z N hv c1 hv'' ∧ Grow ⟨H, Z, hv'⟩ ⟨H, Z, hv''⟩ (c.g e) (c1.g e) c.ob.length c1.ob.length ∧ ∀ cs, AtsOK ⟨H, Z, hv⟩ e A.ob.length l cs → AtsOK ⟨H, Z, hv''⟩ (c1.g e) c1.ob.length l' cs := by
  intro l
  induction l with
  | nil =>
    intro c c1 l' hv' hc h
    simp only [cnL] at h
    cases h
    exact ⟨hv', hc, ⟨fun _ h => h, fun _ _ => rfl, fun _ _ => rfl, Nat.le_refl _, Ex.refl _⟩, fun cs h => by rw [h.nil']; exact ⟨[], rfl, trivial⟩⟩
  | cons a l ih =>
    intro c c1 l' hv' hc h
    simp only [cnL] at h
    split at h
    · rename_i c2 a' h1
      split at h
      · rename_i c3 l3 h2
        cases h
        obtain ⟨hv1, q1, q2, q3⟩ := hf c c2 a a' hv' hc h1
        obtain ⟨hv2, r1, r2, r3⟩ := ih c2 c1 l3 hv1 q1 h2
        refine ⟨hv2, r1, ⟨fun _ h => h, fun _ _ => rfl, fun j hj => (r2.hv j (by have := q2.n; omega)).trans (q2.hv j hj), Nat.le_trans q2.n r2.n, q2.e.trans r2.e⟩, fun cs hcs => ?_⟩
        obtain ⟨p, r, rfl, w1, w2⟩ := hcs.cons
        exact .mk ((q3 p w1).mono r2) (r3 r w2)
      · cases h
    · cases h
theorem cnA_ok {H : Hp} {N : Nat} (hz : ∀ j o b, A.ob[j]? = some o → o.live = true → blk (hv j) = some b → ¬ Z b) (hO : ∀ j o, A.ob[j]? = some o → ObOK ⟨H, Z, hv⟩ e A.ob.length N (hv j) o) :
    ∀ (n : Nat) (c c1 : Ac A) (a a' : At) (hv' : Nat → Value), AcOK A e H Z N hv c hv' → cnA n c a = some (c1, a') → ∃ hv'', AcOK A e H Z N hv c1 hv'' ∧ Grow ⟨H, Z, hv'⟩ ⟨H, Z, hv''⟩ (c.g e) (c1.g e) c.ob.length c1.ob.length ∧ ∀ cs, AtOK ⟨H, Z, hv⟩ e A.ob.length a cs → AtOK ⟨H, Z, hv''⟩ (c1.g e) c1.ob.length a' cs := by
  have same : ∀ (c : Ac A) (hv' : Nat → Value), Grow ⟨H, Z, hv'⟩ ⟨H, Z, hv'⟩ (c.g e) (c.g e) c.ob.length c.ob.length := fun c hv' => ⟨fun _ h => h, fun _ _ => rfl, fun _ _ => rfl, Nat.le_refl _, Ex.refl _⟩
  have pushed : ∀ (c : Ac A) (hv' : Nat → Value) (t : Ty) (f : Pe A.ts → t.den), AcOK A e H Z N hv c hv' → AcOK A e H Z N hv ⟨t :: c.ts, fun e => (f e, c.g e), c.om, c.ob⟩ hv' ∧ Grow ⟨H, Z, hv'⟩ ⟨H, Z, hv'⟩ (c.g e) (ts' := t :: c.ts) (f e, c.g e) c.ob.length c.ob.length := by
    intro c hv' t f hc
    have gr : Grow ⟨H, Z, hv'⟩ ⟨H, Z, hv'⟩ (c.g e) (ts' := t :: c.ts) (f e, c.g e) c.ob.length c.ob.length := ⟨fun _ h => h, fun _ _ => rfl, fun _ _ => rfl, Nat.le_refl _, Ex.push _ _⟩
    refine ⟨⟨hc.a, fun j' hj' => ?_, hc.i⟩, gr⟩
    obtain ⟨j, o', b1, b2, b3, b4⟩ := hc.b j' hj'
    refine ⟨j, o', b1, b2, b3, b4.mono gr (Nat.le_refl _) fun _ b hb => ⟨rfl, ?_⟩⟩
    obtain ⟨_, e2, o3, e3, e4⟩ := hc.a j j' b1
    rw [e2] at hb
    exact hz j o3 b e3 e4 hb
  intro n
  induction n with
  | zero =>
    intro c c1 a a' hv' hc h
    cases a with
    | pu i =>
      simp only [cnA] at h
      split at h
      · rename_i t f hf
        cases h
        obtain ⟨p1, p2⟩ := pushed c hv' t f hc
        refine ⟨hv', p1, p2, fun cs hcs => ?_⟩
        obtain ⟨t', x, h1, h2⟩ := hcs
        rw [lv_lk e hf] at h1
        cases h1
        exact ⟨t, _, lk_top _ _, h2⟩
      · cases h
    | cst l =>
      simp only [cnA] at h
      cases h
      obtain ⟨p1, p2⟩ := pushed c hv' l.ty (fun _ => l.den) hc
      exact ⟨hv', p1, p2, fun cs hcs => ⟨_, _, lk_top _ _, by cases hcs; exact lit_rep l⟩⟩
    | nil => simp only [cnA] at h; cases h; exact ⟨hv', hc, same c hv', fun cs h => h⟩
    | fn f => simp only [cnA] at h; cases h; exact ⟨hv', hc, same c hv', fun cs h => h⟩
    | ifc f => simp only [cnA] at h; cases h; exact ⟨hv', hc, same c hv', fun cs h => h⟩
    | hd j =>
      simp only [cnA] at h
      split at h
      · rename_i j' hj'
        cases h
        obtain ⟨a1, a2, a3⟩ := hc.a j j' hj'
        refine ⟨hv', hc, same c hv', fun cs hcs => ?_⟩
        obtain ⟨h1, h2, h3⟩ := hcs
        have a2' : hv' j' = hv j := a2
        exact ⟨a1, by show ∃ _ _ _, hv' j' = _; rw [a2']; exact h2, by show cs = [hv' j']; rw [a2']; exact h3⟩
      · rename_i hj'
        split at h
        · rename_i t ty i ho
          split at h
          · rename_i f hf
            cases h
            obtain ⟨l, w1, w2⟩ := hO j _ ho
            have w3 := lvT_lk e hf
            rw [w1] at w3
            cases w3
            obtain ⟨p1, p2⟩ := ob_set (ts := .sl t :: c.ts) (g := fun e => (f e, c.g e)) hc (Ex.push _ _) hj' ho rfl (fun b hb => hz j _ b ho rfl hb) (o' := .sl t ty c.ts.length) rfl hz ⟨_, lk_top _ _, w2⟩
            refine ⟨_, p1, p2, fun cs hcs => ?_⟩
            obtain ⟨h1, h2, h3⟩ := hcs
            exact ⟨by simp, by show ∃ _ _ _, upH hv' c.ob.length (hv j) c.ob.length = _; rw [upH_at]; exact h2, by show cs = [upH hv' c.ob.length (hv j) c.ob.length]; rw [upH_at]; exact h3⟩
          · cases h
        · cases h
    | bp j off => simp [cnA] at h
    | ep j i off w => simp [cnA] at h
    | sp i off => simp [cnA] at h
    | ap j off i m w o2 => simp [cnA] at h
  | succ n ih =>
    intro c c1 a a' hv' hc h
    cases a with
    | pu i =>
      simp only [cnA] at h
      split at h
      · rename_i t f hf
        cases h
        obtain ⟨p1, p2⟩ := pushed c hv' t f hc
        refine ⟨hv', p1, p2, fun cs hcs => ?_⟩
        obtain ⟨t', x, h1, h2⟩ := hcs
        rw [lv_lk e hf] at h1
        cases h1
        exact ⟨t, _, lk_top _ _, h2⟩
      · cases h
    | cst l =>
      simp only [cnA] at h
      cases h
      obtain ⟨p1, p2⟩ := pushed c hv' l.ty (fun _ => l.den) hc
      exact ⟨hv', p1, p2, fun cs hcs => ⟨_, _, lk_top _ _, by cases hcs; exact lit_rep l⟩⟩
    | nil => simp only [cnA] at h; cases h; exact ⟨hv', hc, same c hv', fun cs h => h⟩
    | fn f => simp only [cnA] at h; cases h; exact ⟨hv', hc, same c hv', fun cs h => h⟩
    | ifc f => simp only [cnA] at h; cases h; exact ⟨hv', hc, same c hv', fun cs h => h⟩
    | hd j =>
      simp only [cnA] at h
      split at h
      · rename_i j' hj'
        cases h
        obtain ⟨a1, a2, a3⟩ := hc.a j j' hj'
        refine ⟨hv', hc, same c hv', fun cs hcs => ?_⟩
        obtain ⟨h1, h2, h3⟩ := hcs
        have a2' : hv' j' = hv j := a2
        exact ⟨a1, by show ∃ _ _ _, hv' j' = _; rw [a2']; exact h2, by show cs = [hv' j']; rw [a2']; exact h3⟩
      · rename_i hj'
        split at h
        · rename_i t ty i ho
          split at h
          · rename_i f hf
            cases h
            obtain ⟨l, w1, w2⟩ := hO j _ ho
            have w3 := lvT_lk e hf
            rw [w1] at w3
            cases w3
            obtain ⟨p1, p2⟩ := ob_set (ts := .sl t :: c.ts) (g := fun e => (f e, c.g e)) hc (Ex.push _ _) hj' ho rfl (fun b hb => hz j _ b ho rfl hb) (o' := .sl t ty c.ts.length) rfl hz ⟨_, lk_top _ _, w2⟩
            refine ⟨_, p1, p2, fun cs hcs => ?_⟩
            obtain ⟨h1, h2, h3⟩ := hcs
            exact ⟨by simp, by show ∃ _ _ _, upH hv' c.ob.length (hv j) c.ob.length = _; rw [upH_at]; exact h2, by show cs = [upH hv' c.ob.length (hv j) c.ob.length]; rw [upH_at]; exact h3⟩
          · cases h
        · cases h
    | bp j off =>
      simp only [cnA] at h
      split at h
      · rename_i j' hj'
        cases h
        obtain ⟨a1, a2, a3⟩ := hc.a j j' hj'
        refine ⟨hv', hc, same c hv', fun cs hcs => ?_⟩
        obtain ⟨h1, b, h2, h3⟩ := hcs
        have a2' : hv' j' = hv j := a2
        exact ⟨a1, b, by show hv' j' = _; rw [a2']; exact h2, h3⟩
      · rename_i hj'
        split at h
        · rename_i l ho
          split at h
          · rename_i c2 l' hl
            split at h
            · rename_i hn2
              cases h
              obtain ⟨hv1, q1, q2, q3⟩ := cnL_ok ih l c c2 l' hv' hc hl
              obtain ⟨b, bc, u, w1, w2, w3, w4, w5, w6⟩ := hO j _ ho
              have gr : Grow ⟨H, Z, hv1⟩ ⟨H, Z, upH hv1 c2.ob.length (hv j)⟩ (c2.g e) (c2.g e) c2.ob.length (c2.ob.length + 1) := ⟨fun _ h => h, fun _ _ => rfl, fun j hj => upH_lt _ hj, by omega, Ex.refl _⟩
              obtain ⟨p1, p2⟩ := ob_set (g := c2.g) q1 (Ex.refl _) hn2 ho rfl (fun b hb => hz j _ b ho rfl hb) (o' := .bx l') rfl hz ⟨b, bc, u, w1, w2, w3, w4, w5, (q3 bc w6).mono gr⟩
              refine ⟨_, p1, ⟨fun _ h => h, fun _ _ => rfl, fun j hj => (p2.hv j (by have := q2.n; omega)).trans (q2.hv j hj), Nat.le_trans q2.n p2.n, q2.e.trans p2.e⟩, fun cs hcs => ?_⟩
              obtain ⟨h1, b, h2, h3⟩ := hcs
              exact ⟨by simp, b, by show upH hv1 c2.ob.length (hv j) c2.ob.length = _; rw [upH_at]; exact h2, h3⟩
            · cases h
          · cases h
        · cases h
    | ep j i off w => simp [cnA] at h
    | sp i off => simp [cnA] at h
    | ap j off i m w o2 => simp [cnA] at h
theorem cnV1_ok {H : Hp} {N : Nat} (hz : ∀ j o b, A.ob[j]? = some o → o.live = true → blk (hv j) = some b → ¬ Z b) (hO : ∀ j o, A.ob[j]? = some o → ObOK ⟨H, Z, hv⟩ e A.ob.length N (hv j) o) {n : Nat} {c c1 : Ac A} {x x' : AV1} {hv' : Nat → Value} (hc : AcOK A e H Z N hv c hv') (h : cnV1 n c x = some (c1, x')) :
    ∃ hv'', AcOK A e H Z N hv c1 hv'' ∧ Grow ⟨H, Z, hv'⟩ ⟨H, Z, hv''⟩ (c.g e) (c1.g e) c.ob.length c1.ob.length ∧ ∀ v, AV1OK ⟨H, Z, hv⟩ e A.ob.length x v → AV1OK ⟨H, Z, hv''⟩ (c1.g e) c1.ob.length x' v := by
  cases x with
  | a x =>
    simp only [cnV1] at h
    split at h
    · rename_i c2 y hy
      cases h
      obtain ⟨hv'', q1, q2, q3⟩ := cnA_ok hz hO n c c1 x y hv' hc hy
      exact ⟨hv'', q1, q2, fun v h => q3 _ h⟩
    · cases h
  | g l =>
    simp only [cnV1] at h
    split at h
    · rename_i c2 y hy
      cases h
      obtain ⟨hv'', q1, q2, q3⟩ := cnL_ok (cnA_ok hz hO n) l c c1 y hv' hc hy
      exact ⟨hv'', q1, q2, fun v ⟨cs, e1, e2⟩ => ⟨cs, e1, q3 cs e2⟩⟩
    · cases h
theorem cnS_ok (hs : SemD H0 Z0 A e s Z hv) {n : Nat} : ∀ (ds : List Nat) (c c1 : Ac A) (l : List (Nat × AV)) (hv' : Nat → Value), AcOK A e s.H Z H0.size hv c hv' → cnS n c ds = some (c1, l) →
    ∃ hv'', AcOK A e s.H Z H0.size hv c1 hv'' ∧ Grow ⟨s.H, Z, hv'⟩ ⟨s.H, Z, hv''⟩ (c.g e) (c1.g e) c.ob.length c1.ob.length ∧ ∀ p ∈ l, AVOK ⟨s.H, Z, hv''⟩ (c1.g e) c1.ob.length p.2 (s.get p.1)
  | [], c, c1, l, hv', hc, h => by
    simp only [cnS] at h
    cases h
    exact ⟨hv', hc, ⟨fun _ h => h, fun _ _ => rfl, fun _ _ => rfl, Nat.le_refl _, Ex.refl _⟩, fun p hp => by cases hp⟩
  | d :: r, c, c1, l, hv', hc, h => by
    simp only [cnS] at h
    split at h
    · rename_i x hx
      split at h
      · rename_i c2 x' h1
        split at h
        · rename_i c3 l' h2
          cases h
          obtain ⟨hv1, q1, q2, q3⟩ := cnV1_ok (fun j o b hj hl hb => (hs.old hj hl hb).2.2) hs.ob hc h1
          obtain ⟨hv2, r1, r2, r3⟩ := cnS_ok hs r c2 c1 l' hv1 q1 h2
          refine ⟨hv2, r1, ⟨fun _ h => h, fun _ _ => rfl, fun j hj => (r2.hv j (by have := q2.n; omega)).trans (q2.hv j hj), Nat.le_trans q2.n r2.n, q2.e.trans r2.e⟩, fun p hp => ?_⟩
          rcases List.mem_cons.1 hp with rfl | hp
          · exact AVOK.mono r2 (a := .v x') (q3 _ (hs.sl d _ hx))
          · exact r3 p hp
        · cases h
      · cases h
    · cases h
theorem look_mem : ∀ {l : List (Nat × AV)} {d : Nat} {a : AV}, look l d = some a → (d, a) ∈ l
  | [], _, _, h => by cases h
  | (k, v) :: r, d, a, h => by
    simp only [look] at h
    split at h
    · rename_i hk; cases h; subst hk; exact List.mem_cons_self
    · exact List.mem_cons_of_mem _ (look_mem h)
theorem canon0_ok (hs : SemD H0 Z0 A e s Z hv) {ds : List Nat} {nx : Nx A} (h : canon0 A ds = some nx) : ∃ e', nx.F e = some e' ∧ ∃ hv', SemD H0 Z0 nx.B e' s Z hv' := by
  unfold canon0 at h
  split at h
  · rename_i c l hc
    cases h
    obtain ⟨hv', q1, q2, q3⟩ := cnS_ok hs ds _ c l hv ⟨fun j j' h => (by cases h), fun j' h => absurd h (Nat.not_lt_zero _), fun j1 j2 j' h => (by cases h)⟩ hc
    refine ⟨c.g e, rfl, hv', hs.ds, hs.df, hs.keep, hs.z0, hs.zs, hs.zf, ?_, ?_, ?_⟩
    · intro j' o hj'
      have hlt : j' < c.ob.length := (List.getElem?_eq_some_iff.1 hj').1
      obtain ⟨j, o', b1, b2, b3, b4⟩ := q1.b j' hlt
      have hj2 : c.ob[j']? = some o := hj'
      rw [b2] at hj2
      cases hj2
      exact b4
    · intro j j' o o' b hne hj hj' hl hl' hb hb'
      have hlt : j < c.ob.length := (List.getElem?_eq_some_iff.1 hj).1
      have hlt' : j' < c.ob.length := (List.getElem?_eq_some_iff.1 hj').1
      obtain ⟨k, _, b1, _⟩ := q1.b j hlt
      obtain ⟨k', _, b1', _⟩ := q1.b j' hlt'
      obtain ⟨_, e1, o1, e2, e3⟩ := q1.a k j b1
      obtain ⟨_, e1', o1', e2', e3'⟩ := q1.a k' j' b1'
      rw [e1] at hb
      rw [e1'] at hb'
      refine hs.dj k k' o1 o1' b ?_ e2 e2' e3 e3' hb hb'
      rintro rfl
      rw [b1] at b1'
      cases b1'
      exact hne rfl
    · intro d a ha
      exact q3 (d, a) (look_mem ha)
  · cases h
end
end Go.Proofs.YtehbekgmemebjaaDoorEv
