import Derived.Test.YtehbekgmemebjaaDoorPvN
import Derived.Test.YtehbekgmemebjaaDoorEvV
import Derived.Deep.Slices
import Derived.OpenShut
import Derived.ProofKit
namespace Go.Proofs.YtehbekgmemebjaaDoorEv
open Go Go.RowKit
set_option linter.unusedVariables false
set_option linter.unusedSimpArgs false
theorem addr_add (a : Addr) (i j : Nat) : (a.add i).add j = a.add (i + j) := by
  unfold Addr.add
  by_cases h1 : i = 0 <;> by_cases h2 : j = 0 <;> simp [h1, h2, Nat.add_assoc]
def jn : Ty → Ty → Ty
  | .pair u v, r => .pair u (jn v r)
  | .unit, r => r
  | t, r => .pair t r
def jnD : (a r : Ty) → a.den → r.den → (jn a r).den
  | .pair u v, r, x, y => (x.1, jnD v r x.2 y)
  | .unit, _, _, y => y
  | .int _, _, x, y => (x, y)
  | .bool, _, x, y => (x, y)
  | .str, _, x, y => (x, y)
  | .sl _, _, x, y => (x, y)
  | .arr _ _, _, x, y => (x, y)
theorem jn_rep {H : Hp} {Z : Nat → Prop} : ∀ {a r : Ty} {x : a.den} {y : r.den} {c d : List Value}, Rep H Z a x c → Rep H Z r y d → Rep H Z (jn a r) (jnD a r x y) (c ++ d) := by
  intro a
  induction a with
  | pair u v _ ih =>
    intro r x y c d h1 h2
    obtain ⟨p, q, rfl, h3, h4⟩ := h1
    exact ⟨p, q ++ d, by simp, h3, ih h4 h2⟩
  | unit => intro r x y c d h1 h2; cases h1; exact h2
  | int k => intro r x y c d h1 h2; exact ⟨c, d, rfl, h1, h2⟩
  | bool => intro r x y c d h1 h2; exact ⟨c, d, rfl, h1, h2⟩
  | str => intro r x y c d h1 h2; exact ⟨c, d, rfl, h1, h2⟩
  | sl t _ => intro r x y c d h1 h2; exact ⟨c, d, rfl, h1, h2⟩
  | arr n t _ => intro r x y c d h1 h2; exact ⟨c, d, rfl, h1, h2⟩
def DenOK : (t : Ty) → t.den → Prop
  | .int k, n => (Lit.int k n).wf = true
  | .bool, _ => True
  | .str, s => s.size ≤ maxLen
  | .unit, _ => True
  | .pair a b, x => DenOK a x.1 ∧ DenOK b x.2
  | .arr _ t, l => ∀ x ∈ l, DenOK t x
  | .sl t, l => l.length ≤ maxLen ∧ ∀ x ∈ l, DenOK t x
theorem jn_den : ∀ {a r : Ty} {x : a.den} {y : r.den}, DenOK a x → DenOK r y → DenOK (jn a r) (jnD a r x y) := by
  intro a
  induction a with
  | pair u v _ ih => intro r x y h1 h2; exact ⟨h1.1, ih h1.2 h2⟩
  | unit => intro r x y _ h2; exact h2
  | int k => intro r x y h1 h2; exact ⟨h1, h2⟩
  | bool => intro r x y h1 h2; exact ⟨h1, h2⟩
  | str => intro r x y h1 h2; exact ⟨h1, h2⟩
  | sl t _ => intro r x y h1 h2; exact ⟨h1, h2⟩
  | arr n t _ => intro r x y h1 h2; exact ⟨h1, h2⟩
mutual
def tyC (P : Program) : Nat → TypeId → Option Ty
  | 0, _ => none
  | n + 1, t => match P.underlying t with
    | some (.int k) => some (.int k)
    | some .bool => some .bool
    | some .string => some .str
    | some (.slice e) => match tyC P n e with
      | some u => if P.cellsOf e = u.w ∧ 0 < u.w then some (.sl u) else none
      | none => none
    | some (.array k e) => match tyC P n e with
      | some u => if P.cellsOf e = u.w ∧ P.cellsOf t = k * u.w then some (.arr k u) else none
      | none => none
    | some (.struct fs) => tyS P n fs.toList 0 (P.cellsOf t)
    | _ => none
def tyS (P : Program) : Nat → List Field → Nat → Nat → Option Ty
  | 0, _, _, _ => none
  | _ + 1, [], o, m => if o = m then some .unit else none
  | n + 1, f :: r, o, m => match tyC P n f.type, tyS P n r (o + P.cellsOf f.type) m with
    | some a, some b => if f.offset = o ∧ P.cellsOf f.type = a.w then some (jn a b) else none
    | _, _ => none
end
section
variable {P : Program} {w : World} {GL : List Nat}
def Opn (w : World) (GL : List Nat) (H : Hp) (ι : Inj) (t : Ty) (cs : List Value) : Prop :=
  ∃ (H' : Hp) (ι' : Inj) (x : t.den) (cm : List Value), Ext ι ι' ∧ Kept H H' ∧ WR GL ι' H' w ∧ AllRo ι' ∧ Rep H' (fun b => b < H'.size) t x cm ∧ All2 (VR ι') cm cs ∧ DenOK t x
theorem vrs_ext {ι ι' : Inj} (h : Ext ι ι') {l m : List Value} (k : All2 (VR ι) l m) : All2 (VR ι') l m := k.mono fun _ _ => VR.ext h
theorem rep_kept {H H' : Hp} (h : Kept H H') {t : Ty} {x : t.den} {cs : List Value} (r : Rep H (fun b => b < H.size) t x cs) : Rep H' (fun b => b < H'.size) t x cs :=
  Rep.mono (fun b hb => Nat.lt_of_lt_of_le hb h.1) (fun b hb => h.2 b hb) _ _ _ r
theorem opn_rows {t : Ty} {sz : Nat} {cell : Nat → List Value → Prop} (one : ∀ i cs H ι, cell i cs → WR GL ι H w → AllRo ι → Opn w GL H ι t cs) :
    ∀ (L : Nat) (H : Hp) (ι : Inj), (∀ i, i < L → ∃ cs, cell i cs) → WR GL ι H w → AllRo ι →
      ∃ (H' : Hp) (ι' : Inj) (l : List t.den) (ps : List (List Value)), l.length = L ∧ Ext ι ι' ∧ Kept H H' ∧ WR GL ι' H' w ∧ AllRo ι' ∧ All2 (Rep H' (fun b => b < H'.size) t) l ps ∧ (∀ x ∈ l, DenOK t x) ∧ ∀ i p, ps[i]? = some p → ∃ cs, cell i cs ∧ All2 (VR ι') p cs := by
  intro L
  induction L with
  | zero => intro H ι _ hw hr; exact ⟨H, ι, [], [], rfl, Ext.refl ι, Kept.refl H, hw, hr, trivial, (fun x hx => by cases hx), (fun i p h => by simp at h)⟩
  | succ L ih =>
    intro H ι hc hw hr
    obtain ⟨H1, ι1, l, ps, a1, a2, a3, a4, a5, a6, a7, a8⟩ := ih H ι (fun i hi => hc i (by omega)) hw hr
    obtain ⟨cs, hcs⟩ := hc L (by omega)
    obtain ⟨H2, ι2, x, cm, b1, b2, b3, b4, b5, b6, b7⟩ := one L cs H1 ι1 hcs a4 a5
    have hlen := a6.length
    refine ⟨H2, ι2, l ++ [x], ps ++ [cm], by simp [a1], a2.trans b1, a3.trans b2, b3, b4, (a6.mono fun _ _ => rep_kept b2).append ⟨b5, trivial⟩, ?_, ?_⟩
    · intro y hy
      rcases List.mem_append.1 hy with hy | hy
      · exact a7 y hy
      · rw [List.mem_singleton.1 hy]; exact b7
    · intro i p hp
      rw [List.getElem?_append] at hp
      split at hp
      · obtain ⟨cs', h1, h2⟩ := a8 i p hp
        exact ⟨cs', h1, vrs_ext b1 h2⟩
      · rename_i hi
        have h0 := (List.getElem?_eq_some_iff.1 hp).1
        simp at h0
        have : i = L := by omega
        subst this
        have e0 : i - ps.length = 0 := by omega
        rw [e0] at hp
        simp at hp
        subst hp
        exact ⟨cs, hcs, b6⟩
theorem flat_cell {sz : Nat} : ∀ {ps : List (List Value)} {q : Nat} {v : Value}, (∀ p ∈ ps, p.length = sz) → ps.flatten[q]? = some v → 0 < sz → ∃ p, ps[q / sz]? = some p ∧ p[q % sz]? = some v
  | [], q, v, _, h, _ => by simp at h
  | p :: ps, q, v, hl, h, h0 => by
    have hp := hl p List.mem_cons_self
    rw [List.flatten_cons, List.getElem?_append] at h
    split at h
    · rename_i hlt
      rw [hp] at hlt
      exact ⟨p, by rw [Nat.div_eq_of_lt hlt]; rfl, by rw [Nat.mod_eq_of_lt hlt]; exact h⟩
    · rename_i hge
      rw [hp] at h hge
      obtain ⟨p', h1, h2⟩ := flat_cell (fun p hp' => hl p (List.mem_cons_of_mem _ hp')) h h0
      have e1 : q / sz = (q - sz) / sz + 1 := by rw [← Nat.div_eq_sub_div h0 (by omega)]
      have e2 : q % sz = (q - sz) % sz := by rw [← Nat.mod_eq_sub_mod (by omega)]
      exact ⟨p', by rw [e1, List.getElem?_cons_succ]; exact h1, by rw [e2]; exact h2⟩
theorem all2_get {α β : Type} {R : α → β → Prop} {l : List α} {m : List β} (h : All2 R l m) {i : Nat} {a : α} (e : l[i]? = some a) : ∃ b, m[i]? = some b ∧ R a b := h.get i e
theorem opn : ∀ (n : Nat),
    (∀ (ty : TypeId) (t : Ty), tyC P n ty = some t → ∀ {D : Type} {enc : TypeId × Value → D} {base : Nat} {spare : Nat → Bool} {held : Bool} {fuel : Nat} {cs : List Value} {x : DataW D × List MemPlace}, DataW.trod enc P w base spare held fuel ty cs = some x → ∀ H ι, WR GL ι H w → AllRo ι → Opn w GL H ι t cs) ∧
    (∀ (fs : List Field) (o m : Nat) (t : Ty), tyS P n fs o m = some t → ∀ {D : Type} {enc : TypeId × Value → D} {base : Nat} {spare : Nat → Bool} {held : Bool} {fuel : Nat} {cs : List Value}, cs.length = m → o ≤ m → (∀ f ∈ fs, ∃ x, DataW.trod enc P w base spare held fuel f.type ((cs.drop f.offset).take (P.cellsOf f.type)) = some x) → ∀ H ι, WR GL ι H w → AllRo ι → Opn w GL H ι t (cs.drop o)) := by
  intro n
  induction n with
  | zero => exact ⟨fun ty t h => by simp [tyC] at h, fun fs o m t h => by simp [tyS] at h⟩
  | succ n ih =>
    obtain ⟨ih1, ih2⟩ := ih
    refine ⟨?_, ?_⟩
    · intro ty t h D enc base spare held fuel cs x hx H ι hw hr
      simp only [tyC] at h
      split at h
      · rename_i k hu
        cases h
        obtain ⟨i, rfl, rfl, hwf⟩ := DataW.trod_int hu hx
        exact ⟨H, ι, i, [.int k i], Ext.refl ι, Kept.refl H, hw, hr, rfl, ⟨.int _ _, trivial⟩, hwf⟩
      · rename_i hu
        cases h
        obtain ⟨b, rfl, rfl⟩ := DataW.trod_bool hu hx
        exact ⟨H, ι, b, [.bool b], Ext.refl ι, Kept.refl H, hw, hr, rfl, ⟨.bool _, trivial⟩, trivial⟩
      · rename_i hu
        cases h
        obtain ⟨s, rfl, rfl, hs⟩ := DataW.trod_string hu hx
        exact ⟨H, ι, s, [.string s], Ext.refl ι, Kept.refl H, hw, hr, rfl, ⟨.string _, trivial⟩, hs⟩
      · rename_i e hu
        split at h
        · rename_i u hu'
          split at h
          · rename_i hc
            obtain ⟨hc, hw0⟩ := hc
            cases h
            rcases Deep.open_slice hu hx with ⟨rfl, rfl⟩ | ⟨a, len, cap, m, fu, Dd, Pl, rfl, hb, hl, hm, hme, rfl, hel⟩
            · refine ⟨H.new (.cells [] ⟨0, 0, false⟩ true), ι, [], [.slice (some ⟨H.size, 0, some 2⟩) 0 0], Ext.refl ι, Kept.new _ _, hw.ghost _, hr, ⟨_, 0, rfl, .inl ⟨rfl, fun h => by cases h⟩⟩, ⟨.arg _ _ _ _ _ (Nat.le_refl _) (fun h => absurd rfl h), trivial⟩, Nat.zero_le _, (fun x hx => by cases hx)⟩
            · have hlm : len ≤ m := by rw [hme]; split <;> omega
              obtain ⟨H1, ι1, l, ps, a1, a2, a3, a4, a5, a6, a7, a8⟩ := opn_rows (sz := u.w) (cell := fun i cs => w.cells? base (a.add (i * P.cellsOf e)) (P.cellsOf e) = some cs ∧ ∃ y, DataW.trod enc P w base spare held fu e cs = some y) (fun i cs H ι ⟨h1, y, h2⟩ hw hr => ih1 e u hu' h2 H ι hw hr) len H ι (fun i hi => by
                obtain ⟨cs', h1, h2⟩ := hel i (by omega)
                exact ⟨cs', h1, _, h2⟩) hw hr
              subst a1
              rcases Nat.eq_zero_or_pos l.length with h0 | h0
              · have hl0 : l = [] := List.eq_nil_of_length_eq_zero h0
                subst hl0
                refine ⟨H1.new (.cells [] ⟨0, 0, false⟩ true), ι1, [], [.slice (some ⟨H1.size, 0, some 2⟩) 0 0], a2, a3.trans (Kept.new _ _), a4.ghost _, a5, ⟨_, 0, rfl, .inl ⟨rfl, fun h => by cases h⟩⟩, ⟨.arg _ _ _ _ _ (Nat.zero_le _) (fun h => absurd rfl h), trivial⟩, Nat.zero_le _, (fun x hx => by cases hx)⟩
              · have hpl := a6.length
                have hps : ∀ p ∈ ps, p.length = u.w := by
                  intro p hp
                  obtain ⟨i, hi, rfl⟩ := List.getElem_of_mem hp
                  have hi' : l[i]? = some (l[i]'(by omega)) := List.getElem?_eq_getElem (by omega)
                  obtain ⟨p', e1, e2⟩ := a6.get i hi'
                  rw [List.getElem?_eq_getElem hi] at e1
                  cases e1
                  exact e2.len
                have cell : ∀ q v, ps.flatten[q]? = some v → ∃ v', w.cell? (a.add q) = some v' ∧ VR ι1 v v' := by
                  intro q v hq
                  obtain ⟨p, e1, e2⟩ := flat_cell hps hq hw0
                  obtain ⟨cs, ⟨h1, _⟩, h2⟩ := a8 _ p e1
                  obtain ⟨_, hlen, hcell⟩ := World.cells?_some h1
                  obtain ⟨v', e3, e4⟩ := all2_get h2 e2
                  have hlt : q % u.w < P.cellsOf e := by rw [hc]; exact Nat.mod_lt _ hw0
                  have e5 := hcell (q % u.w) hlt
                  rw [addr_add, e3, hc] at e5
                  have e6 : q / u.w * u.w + q % u.w = q := by rw [Nat.mul_comm]; exact Nat.div_add_mod q u.w
                  rw [e6] at e5
                  exact ⟨v', e5, e4⟩
                have hflen := reps_len a6
                have hp : 0 < l.length * u.w := Nat.mul_pos h0 hw0
                obtain ⟨v0, hc0, _⟩ := cell 0 (ps.flatten[0]'(by omega)) (by rw [List.getElem?_eq_getElem])
                have hadd0 : a.add 0 = a := by simp [Addr.add]
                rw [hadd0] at hc0
                obtain ⟨blk, off, spot⟩ := a
                cases hbk : w.heap[blk]? with
                | none => simp [World.cell?, hbk] at hc0
                | some o =>
                  cases o with
                  | cells ccs el fr =>
                    have hs : spot = none := by
                      cases spot with
                      | none => rfl
                      | some s => simp [World.cell?, hbk] at hc0
                    subst hs
                    have cc : ∀ q v, ps.flatten[q]? = some v → ∃ v', ccs[off + q]? = some v' ∧ VR ι1 v v' := fun q v hq => by
                      obtain ⟨v', e1, e2⟩ := cell q v hq
                      rw [add_plain'] at e1
                      simp [World.cell?, hbk] at e1
                      exact ⟨v', e1, e2⟩
                    have hle : off + ps.flatten.length ≤ ccs.size := by
                      obtain ⟨v', e1, _⟩ := cc (l.length * u.w - 1) (ps.flatten[l.length * u.w - 1]'(by omega)) (by rw [List.getElem?_eq_getElem])
                      have := (Array.getElem?_eq_some_iff.1 e1).1
                      omega
                    have hx' := add_ext (i := ⟨blk, off, 0, ccs.size, true⟩) a4.lt
                    refine ⟨H1.new (.cells ps.flatten ⟨0, 0, false⟩ true), ι1.add H1.size ⟨blk, off, 0, ccs.size, true⟩, l, [.slice (some ⟨H1.size, 0, some 2⟩) l.length l.length], a2.trans hx', a3.trans (Kept.new _ _), a4.view a5 hbk hle (fun j v hj => cc j v hj), a5.add rfl, ?_, ⟨.arg _ _ _ _ _ hl fun _ => ⟨_, add_same _ _ _, by simp⟩, trivial⟩, by omega, a7⟩
                    refine ⟨_, l.length, rfl, .inr ⟨H1.size, 0, some 2, ps.flatten, ⟨0, 0, false⟩, true, ps, [], rfl, by show H1.size < (H1.new _).size; rw [Hp.size_new]; omega, by rw [Hp.get_new, if_pos rfl], by simp, a6.mono fun _ _ => rep_kept (Kept.new _ _), .inl rfl, hw0, Nat.le_refl _⟩⟩
                  | _ => simp [World.cell?, hbk] at hc0
          · cases h
        · cases h
      · rename_i k e hu
        split at h
        · rename_i u hu'
          split at h
          · rename_i hc
            obtain ⟨hc, hc2⟩ := hc
            cases h
            obtain ⟨xs, m, e1, e2, e3, e4, e5⟩ := DataW.trod_array hu hx
            obtain ⟨H1, ι1, l, ps, a1, a2, a3, a4, a5, a6, a7, a8⟩ := opn_rows (sz := u.w) (cell := fun i c => c = (cs.drop (i * P.cellsOf e)).take (P.cellsOf e) ∧ ∃ y, DataW.trod enc P w base spare held m e c = some y) (fun i c H ι ⟨h1, y, h2⟩ hw hr => ih1 e u hu' h2 H ι hw hr) k H ι (fun i hi => ⟨_, rfl, xs[i]'(by omega), by rw [e5 i hi, List.getElem?_eq_getElem]⟩) hw hr
            refine ⟨H1, ι1, l, ps.flatten, a2, a3, a4, a5, ⟨ps, a1, rfl, a6⟩, ?_, a7⟩
            have hpl := a6.length
            have : ∀ (ps : List (List Value)) (i : Nat), (∀ j p, ps[j]? = some p → All2 (VR ι1) p ((cs.drop ((i + j) * u.w)).take u.w)) → All2 (VR ι1) ps.flatten ((cs.drop (i * u.w)).take (ps.length * u.w)) := by
              intro ps
              induction ps with
              | nil => intro i _; rw [List.length_nil, Nat.zero_mul, List.take_zero]; exact trivial
              | cons p ps ihp =>
                intro i h
                have h1 := h 0 p rfl
                have h2 := ihp (i + 1) (fun j p hp => by
                  have := h (j + 1) p (by simpa using hp)
                  have e0 : i + (j + 1) = i + 1 + j := by omega
                  rwa [e0] at this)
                rw [List.flatten_cons]
                have e0 : (cs.drop (i * u.w)).take ((p :: ps).length * u.w) = (cs.drop (i * u.w)).take u.w ++ (cs.drop ((i + 1) * u.w)).take (ps.length * u.w) := by
                  rw [List.length_cons, Nat.add_mul, Nat.one_mul, Nat.add_comm, List.take_add, List.drop_drop, Nat.add_mul, Nat.one_mul]
                rw [e0]
                exact h1.append h2
            have := this ps 0 (fun j p hp => by
              obtain ⟨c, ⟨rfl, _⟩, h2⟩ := a8 j p hp
              rw [hc] at h2
              simpa using h2)
            rw [Nat.zero_mul, List.drop_zero, List.take_of_length_le (by rw [← hpl, a1, e3, hc2]; exact Nat.le_refl _)] at this
            exact this
          · cases h
        · cases h
      · rename_i fs hu
        obtain ⟨xs, m, e1, e2, e3, e4, e5⟩ := DataW.trod_struct hu hx
        have := ih2 fs.toList 0 (P.cellsOf ty) t h (enc := enc) (base := base) (spare := spare) (held := held) (fuel := m) (cs := cs) e3 (Nat.zero_le _) (fun f hf => by
          obtain ⟨i, hi, rfl⟩ := List.getElem_of_mem hf
          have hi' : i < fs.size := by simpa using hi
          have hg : fs[i]? = some fs[i] := Array.getElem?_eq_getElem hi'
          refine ⟨xs[i]'(by omega), ?_⟩
          have := e5 i fs[i] hg
          rw [List.getElem?_eq_getElem (by omega)] at this
          simpa using this) H ι hw hr
        rwa [List.drop_zero] at this
      · cases h
    · intro fs o m t h D enc base spare held fuel cs hl ho hf H ι hw hr
      cases fs with
      | nil =>
        simp only [tyS] at h
        split at h
        · rename_i hom
          cases h
          refine ⟨H, ι, (), [], Ext.refl ι, Kept.refl H, hw, hr, rfl, ?_, trivial⟩
          rw [List.drop_of_length_le (by omega)]; exact trivial
        · cases h
      | cons f r =>
        simp only [tyS] at h
        split at h
        · rename_i a b h1 h2
          split at h
          · rename_i hc
            obtain ⟨rfl, hc⟩ := hc
            cases h
            obtain ⟨x, hx⟩ := hf f List.mem_cons_self
            obtain ⟨H1, ι1, x1, c1, a1, a2, a3, a4, a5, a6, a7⟩ := ih1 f.type a h1 hx H ι hw hr
            have hlen1 := a5.len
            have hlen2 := a6.length
            have hle : f.offset + P.cellsOf f.type ≤ m := by
              rw [List.length_take, List.length_drop, hl] at hlen2
              omega
            obtain ⟨H2, ι2, x2, c2, b1, b2, b3, b4, b5, b6, b7⟩ := ih2 r (f.offset + P.cellsOf f.type) m b h2 (enc := enc) (base := base) (spare := spare) (held := held) (fuel := fuel) (cs := cs) hl hle (fun g hg => hf g (List.mem_cons_of_mem _ hg)) H1 ι1 a3 a4
            refine ⟨H2, ι2, jnD a b x1 x2, c1 ++ c2, a1.trans b1, a2.trans b2, b3, b4, jn_rep (rep_kept b2 a5) b5, ?_, jn_den a7 b7⟩
            have e0 : cs.drop f.offset = (cs.drop f.offset).take (P.cellsOf f.type) ++ cs.drop (f.offset + P.cellsOf f.type) := by
              rw [← List.drop_drop, List.take_append_drop]
            rw [e0]
            exact (vrs_ext b1 a6).append b6
          · cases h
        · cases h
end
end Go.Proofs.YtehbekgmemebjaaDoorEv
namespace Go.Proofs.YtehbekgmemebjaaDoorEv
open Go Go.RowKit Go.ChangeShapes Go.WideShapes
open Go.ChangeMaps (open_string)
set_option linter.unusedVariables false
set_option linter.unusedSimpArgs false
section
variable {P : Program} {w : World} {GL : List Nat}
def DensOK : (ts : List Ty) → Pe ts → Prop
  | [], _ => True
  | t :: r, e => DenOK t e.1 ∧ DensOK r e.2
def tyCs (P : Program) (n : Nat) : List TypeId → Option (List Ty)
  | [] => some []
  | t :: r => match tyC P n t, tyCs P n r with
    | some a, some l => some (a :: l)
    | _, _ => none
theorem jn_agg (a r : Ty) (h : r.isAgg = true) : (jn a r).isAgg = true := by
  cases a <;> first | rfl | exact h
theorem tyS_agg : ∀ {n : Nat} {fs : List Field} {o m : Nat} {t : Ty}, tyS P n fs o m = some t → t.isAgg = true
  | 0, fs, o, m, t, h => by simp [tyS] at h
  | n + 1, [], o, m, t, h => by
    simp only [tyS] at h
    split at h
    · cases h; rfl
    · cases h
  | n + 1, f :: r, o, m, t, h => by
    simp only [tyS] at h
    split at h
    · rename_i a b h1 h2
      split at h
      · cases h; exact jn_agg _ _ (tyS_agg h2)
      · cases h
    · cases h
theorem tyC_shape {n : Nat} {ty : TypeId} {t : Ty} (h : tyC P n ty = some t) {r : Reach} {b0 : Nat} {v : Value} (hok : Value.okWide P w r b0 ty v) {D : Type} {enc : TypeId × Value → D} {base : Nat} {sp : Nat → Bool} {held : Bool} {d : DataW D} {ps : List MemPlace} (ht : DataW.Trod enc P w base sp held ty v d ps) :
    (t.isAgg = true ∧ ∃ cs, v = .agg cs) ∨ (t.isAgg = false ∧ isCell v = true) := by
  cases n with
  | zero => simp [tyC] at h
  | succ n =>
    simp only [tyC] at h
    split at h
    · rename_i k hu
      cases h
      obtain ⟨i, rfl, _⟩ := open_int hu hok ht
      exact .inr ⟨rfl, rfl⟩
    · rename_i hu
      cases h
      obtain ⟨i, rfl, _⟩ := open_bool hu hok ht
      exact .inr ⟨rfl, rfl⟩
    · rename_i hu
      cases h
      obtain ⟨i, rfl, _⟩ := open_string hu hok ht
      exact .inr ⟨rfl, rfl⟩
    · rename_i e hu
      split at h
      · split at h
        · cases h
          obtain ⟨a, len, cap, rfl⟩ := okWide_slice hu hok
          exact .inr ⟨rfl, rfl⟩
        · cases h
      · cases h
    · rename_i k e hu
      split at h
      · split at h
        · cases h
          simp only [Value.okWide, hu] at hok
          obtain ⟨cs, h1, _⟩ := hok
          exact .inl ⟨rfl, cs, h1⟩
        · cases h
      · cases h
    · rename_i fs hu
      obtain ⟨cs, rfl, _⟩ := okWide_struct hu hok
      exact .inl ⟨tyS_agg h, cs, rfl⟩
    · cases h
theorem args_open {n : Nat} {D : Type} {enc : TypeId × Value → D} {base b0 : Nat} {sp : Nat → Bool} {held : Bool} {r : Reach} : ∀ {params : List TypeId} {ts : List Ty} {vs : List Value} {ds : List (DataW D)} {ps : List MemPlace}, tyCs P n params = some ts → DataW.TrodAll enc P w base sp held params vs ds ps →
    (∀ (j : Nat) t v, params[j]? = some t → vs[j]? = some v → Value.okWide P w r b0 t v) → ∀ H ι, WR GL ι H w → AllRo ι →
    ∃ H' ι' e vm, Ext ι ι' ∧ Kept H H' ∧ WR GL ι' H' w ∧ AllRo ι' ∧ ArgsOK H' (fun b => b < H'.size) ts e vm ∧ All2 (VR ι') vm vs ∧ DensOK ts e
  | [], ts, vs, ds, ps, h, hA, hok, H, ι, hw, hr => by
    simp only [tyCs] at h
    cases h
    cases vs with
    | nil => exact ⟨H, ι, (), [], Ext.refl ι, Kept.refl H, hw, hr, trivial, trivial, trivial⟩
    | cons v vs => cases ds <;> exact hA.elim
  | ty :: params, ts, vs, ds, ps, h, hA, hok, H, ι, hw, hr => by
    simp only [tyCs] at h
    split at h
    · rename_i t l h1 h2
      cases h
      obtain ⟨v, vs', d, ds', p, q, rfl, rfl, rfl, h3, h4⟩ := trodAll_cons hA
      have hokv := hok 0 ty v rfl rfl
      have hsh := tyC_shape h1 hokv h3
      obtain ⟨fuel, h5⟩ := h3
      obtain ⟨H1, ι1, x, cm, a1, a2, a3, a4, a5, a6, a7⟩ := (opn (GL := GL) n).1 ty t h1 h5 H ι hw hr
      obtain ⟨H2, ι2, e, vm, b1, b2, b3, b4, b5, b6, b7⟩ := args_open h2 h4 (fun j t v e1 e2 => hok (j + 1) t v (by simpa using e1) (by simpa using e2)) H1 ι1 a3 a4
      have hrep := rep_kept b2 a5
      have hvr := vrs_ext b1 a6
      rcases hsh with ⟨g1, cs, rfl⟩ | ⟨g1, g2⟩
      · refine ⟨H2, ι2, (x, e), .agg cm.toArray :: vm, a1.trans b1, a2.trans b2, b3, b4, ⟨?_, b5⟩, ⟨?_, b6⟩, a7, b7⟩
        · unfold RepV
          rw [if_pos g1]
          exact ⟨cm, rfl, hrep⟩
        · have hl : cm.length = cs.toList.length := hvr.length
          refine .agg _ _ (by simpa using hl) fun j v v' e1 e2 => ?_
          obtain ⟨v2, e3, e4⟩ := hvr.get j (by simpa using e1)
          have e2' : cs.toList[j]? = some v' := by simpa using e2
          have e3' : cs.toList[j]? = some v2 := e3
          rw [e2'] at e3'
          cases e3'
          exact e4
      · rw [cell_cells g2] at hvr
        obtain ⟨c0, rfl⟩ : ∃ c0, cm = [c0] := by
          have hl := hvr.length
          match cm, hl with
          | [c0], _ => exact ⟨c0, rfl⟩
        refine ⟨H2, ι2, (x, e), c0 :: vm, a1.trans b1, a2.trans b2, b3, b4, ⟨?_, b5⟩, ⟨hvr.1, b6⟩, a7, b7⟩
        unfold RepV
        rw [if_neg (by rw [g1]; decide)]
        exact hrep
    · cases h
theorem trodAll_lt {D : Type} {enc : TypeId × Value → D} {sp : Nat → Bool} {held : Bool} {base : Nat} : ∀ {params : List TypeId} {vs : List Value} {ds : List (DataW D)} {ps : List MemPlace}, DataW.TrodAll enc P w base sp held params vs ds ps → ∀ x ∈ ps, x.block < w.heap.size
  | [], vs, ds, ps, h, x, hx => by
    cases vs <;> cases ds <;> simp [DataW.TrodAll] at h
    subst h; cases hx
  | t :: params, vs, ds, ps, h, x, hx => by
    obtain ⟨v, vs', d, ds', p, q, rfl, rfl, rfl, h3, h4⟩ := trodAll_cons h
    rcases List.mem_append.1 hx with hx | hx
    · obtain ⟨m, hm⟩ := h3
      exact DataW.trod_lt m _ _ _ hm x hx
    · exact trodAll_lt h4 x hx
theorem trodAll_back {D : Type} {enc : TypeId × Value → D} {w' : World} (hl : laidOutB P = true) (hb : Below w.heap.size w w') : ∀ {params : List TypeId} {vs : List Value} {ds : List (DataW D)} {ps : List MemPlace}, (params.all fun t => P.readableRec t && decide (t < P.types.size)) = true → DataW.TrodAll enc P w 0 (fun _ => true) true params vs ds ps →
    DataW.TrodAll enc P w' 0 (fun b => decide (b < w.heap.size)) true params vs ds ps
  | [], vs, ds, ps, _, h => by
    cases vs <;> cases ds <;> exact h
  | t :: params, vs, ds, ps, hr, h => by
    have hlt := trodAll_lt h
    obtain ⟨v, vs', d, ds', p, q, rfl, rfl, rfl, h3, h4⟩ := trodAll_cons h
    simp only [List.all_cons, Bool.and_eq_true, decide_eq_true_eq] at hr
    exact trodAll_cons_mk (Below.trod hl hr.1.1 hr.1.2 h3 hb fun x hx => hlt x (List.mem_append_left _ hx)) (trodAll_back hl hb hr.2 h4)
end
section
variable {P : Program} {GL : List Nat}
open Classical in
noncomputable def orc (f : Nat) (G : Hp → Prop) : Caller := fun g a H => if g = f ∧ a = #[] ∧ G H then some (.ret (.bool true) H) else none
theorem orc_ok {f : Nat} {G : Hp → Prop} (hb : HasBody P f) (h : ∀ (ι : Inj) (H : Hp) (w : World), WR GL ι H w → G H → Calls P f #[] w fun e w' => e = .returned (.bool true) ∧ Below w.heap.size w w') : CallOK P GL (orc f G) := by
  intro g a H r hr
  unfold orc at hr
  split at hr
  · rename_i hc
    obtain ⟨rfl, rfl, hG⟩ := hc
    cases hr
    refine ⟨hb, fun ι w args' hw hva => ?_⟩
    have ha : args' = #[] := by
      have := hva.1
      simp at this
      exact Array.eq_empty_of_size_eq_zero this.symm
    subst ha
    refine (h ι H w hw hG).mono ?_
    rintro e w' ⟨rfl, hbl⟩
    refine ⟨.bool true, ι, rfl, ⟨Ext.refl ι, fun b i h1 h2 => by rw [h1] at h2; cases h2⟩, .bool true, ?_, ?_, Nat.le_refl _⟩
    · refine ⟨fun b i hbi => ?_, fun b i hbi => ?_, hw.inj, hw.glob⟩
      · obtain ⟨o, h1, h2⟩ := hw.obj b i hbi
        exact ⟨o, h1, h2.mono (Ext.refl ι) (hbl.block _ (hw.dom b i hbi).2)⟩
      · have := hw.dom b i hbi
        exact ⟨this.1, Nat.lt_of_lt_of_le this.2 hbl.size⟩
    · exact ⟨hbl.os, hbl.tape, hbl.output, hbl.size, fun c hc _ => hbl.block c hc⟩
  · cases hr
end
end Go.Proofs.YtehbekgmemebjaaDoorEv
