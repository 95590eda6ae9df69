import Derived.Test.YtehbekgmemebjaaDoorEvR
namespace Go.Proofs.YtehbekgmemebjaaDoorEv
open Go
set_option linter.unusedVariables false
set_option linter.unusedSimpArgs false
def Fin {β : Type} (E : Caller → Option β) : Prop := ∀ c r, E c = some r → ∃ L : List (Nat × Array Value × Hp × CR), (∀ q ∈ L, c q.1 q.2.1 q.2.2.1 = some q.2.2.2) ∧ ∀ c' : Caller, (∀ q ∈ L, c' q.1 q.2.1 q.2.2.1 = some q.2.2.2) → E c' = some r
theorem Fin.const {β : Type} (x : Option β) : Fin (fun _ => x) := fun c r h => ⟨[], by simp, fun _ _ => h⟩
theorem Fin.call (f : Nat) (a : Array Value) (H : Hp) : Fin (fun c => c f a H) := fun c r h => ⟨[(f, a, H, r)], by simpa using h, fun c' h' => by simpa using h'⟩
theorem Fin.bind {β γ : Type} {E : Caller → Option β} {F : β → Caller → Option γ} (hE : Fin E) (hF : ∀ a, Fin (F a)) : Fin (fun c => (E c).bind fun a => F a c) := by
  intro c r h
  obtain ⟨a, h1, h2⟩ := Option.bind_eq_some_iff.1 h
  obtain ⟨L1, p1, q1⟩ := hE c a h1
  obtain ⟨L2, p2, q2⟩ := hF a c r h2
  refine ⟨L1 ++ L2, fun q hq => ?_, fun c' h' => ?_⟩
  · rcases List.mem_append.1 hq with hq | hq
    · exact p1 q hq
    · exact p2 q hq
  · exact Option.bind_eq_some_iff.2 ⟨a, q1 c' fun q hq => h' q (List.mem_append_left _ hq), q2 c' fun q hq => h' q (List.mem_append_right _ hq)⟩
theorem Fin.congr {β : Type} {E E' : Caller → Option β} (h : Fin E) (e : ∀ c, E' c = E c) : Fin E' := by
  have : E' = E := funext e
  rw [this]; exact h
theorem Fin.ite {β : Type} {p : Prop} [Decidable p] {E E' : Caller → Option β} (h : Fin E) (h' : Fin E') : Fin (fun c => if p then E c else E' c) := by
  by_cases hp : p
  · simpa only [if_pos hp] using h
  · simpa only [if_neg hp] using h'
theorem fin_evOpr (o : AOpr) (s : St) : Fin (fun c => evOpr c o s) := by
  unfold evOpr
  refine Fin.ite ?_ (Fin.const _)
  cases he : evOp s.env s.H o.op with
  | none => exact Fin.const _
  | some r =>
    cases r with
    | call f args =>
      refine (Fin.bind (Fin.call f args s.H) (F := fun r _ => match r with
        | .ret v H => some (.normal, { s with H }.put o.dst v)
        | .pan v H => some (.pan v, { s with H })) fun a => Fin.const _).congr fun c => ?_
      simp only
      cases c f args s.H with
      | none => rfl
      | some r => cases r <;> rfl
    | ok v H => exact Fin.const _
    | defer f a => exact Fin.const _
    | recover => exact Fin.const _
    | panic v => exact Fin.const _
theorem fin_evOps : ∀ (l : List AOpr) (s : St), Fin (fun c => evOps c l s)
  | [], s => Fin.const _
  | o :: r, s => by
    refine (Fin.bind (fin_evOpr o s) (F := fun p c => match p with
      | (.normal, s1) => evOps c r s1
      | e => some e) fun p => ?_).congr fun c => ?_
    · obtain ⟨ex, s1⟩ := p
      cases ex with
      | normal => exact fin_evOps r s1
      | _ => exact Fin.const _
    · simp only [evOps]
      cases evOpr c o s with
      | none => rfl
      | some p => obtain ⟨ex, s1⟩ := p; cases ex <;> rfl
theorem fin_stepD (i : Nat) (d : DOpr) (x : DSt) : Fin (fun c => stepD c i d x) := by
  unfold stepD
  cases hp : x.pan with
  | some p =>
    obtain ⟨p, v⟩ := p
    simp only
    refine Fin.ite (Fin.const _) (Fin.ite (Fin.const _) ?_)
    refine (Fin.bind (fin_evOpr d.o x.s) (F := fun q _ => match q with
      | (.normal, s1) => some { x with s := s1, rs := some ⟨x.s, s1.getO d.o.dst⟩ :: x.rs, pan := some (p, v) }
      | _ => none) fun a => Fin.const _).congr fun c => ?_
    cases evOpr c d.o x.s with
    | none => rfl
    | some q => obtain ⟨ex, s1⟩ := q; cases ex <;> first | rfl | (simp only [Option.bind_some]; rw [← hp])
  | none =>
    simp only
    refine (Fin.bind (fin_evOpr d.o x.s) (F := fun q _ => match q with
      | (.normal, s1) => some { s := s1, Gs := if d.chain then s1.H :: x.Gs else x.Gs, rs := some ⟨x.s, s1.getO d.o.dst⟩ :: x.rs, pan := none }
      | (.pan v, s1) => if d.chain then some { s := s1, Gs := s1.H :: x.Gs, rs := none :: x.rs, pan := some (i, v) } else none
      | _ => none) fun a => Fin.const _).congr fun c => ?_
    cases evOpr c d.o x.s with
    | none => rfl
    | some q => obtain ⟨ex, s1⟩ := q; cases ex <;> rfl
theorem fin_runD : ∀ (l : List DOpr) (i : Nat) (x : DSt), Fin (fun c => runD c i l x)
  | [], i, x => Fin.const _
  | d :: r, i, x => by
    refine (Fin.bind (fin_stepD i d x) fun x1 => fin_runD r (i + 1) x1).congr fun c => ?_
    simp only [runD]
    cases stepD c i d x <;> rfl
theorem fin_evDrawn (l : List DOpr) (s : St) : Fin (fun c => evDrawn c l s) := by
  refine (Fin.bind (fin_runD l 0 { s, Gs := [s.H], rs := [], pan := none }) (F := fun x _ => if checkF l x.rs.reverse x.Gs.reverse then
      (match x.pan with
      | none => some (.normal, x.s)
      | some (_, v) => some (.pan v, { poison l s with H := x.s.H, ds := x.s.ds, pm := x.s.pm })) else none) fun a => Fin.const _).congr fun c => ?_
  unfold evDrawn
  cases runD c 0 l _ <;> rfl
theorem fin_evC : ∀ (n : Nat) (c : ACode) (s : St), Fin (fun k => evC k n c s) := by
  intro n
  induction n with
  | zero => intro c s; exact Fin.const _
  | succ n ih =>
    intro c s
    cases c with
    | skip => exact Fin.const _
    | ops l => exact fin_evOps l s
    | drawn l => exact fin_evDrawn l s
    | drawnP l =>
      cases hp : preD l s with
      | none => exact (Fin.const none).congr fun k => by simp only [evC, hp]
      | some q => exact (fin_evDrawn q.1 { s with H := q.2 }).congr fun k => by simp only [evC, hp]
    | seq a b =>
      refine (Fin.bind (ih a s) (F := fun p k => match p with
        | (.normal, s1) => evC k n b s1
        | e => some e) fun p => ?_).congr fun k => ?_
      · obtain ⟨ex, s1⟩ := p
        cases ex with
        | normal => exact ih b s1
        | _ => exact Fin.const _
      · simp only [evC]
        cases evC k n a s with
        | none => rfl
        | some p => obtain ⟨ex, s1⟩ := p; cases ex <;> rfl
    | cond x a b =>
      simp only [evC]
      cases s.env x with
      | bool t => cases t with
        | true => exact ih a s
        | false => exact ih b s
      | _ => exact Fin.const _
    | block id c =>
      refine (Fin.bind (ih c s) (F := fun p _ => match p with
        | (.exit i, s1) => if i = id then some (.normal, s1) else some (.exit i, s1)
        | e => some e) fun p => Fin.const _).congr fun k => ?_
      simp only [evC]
      cases evC k n c s with
      | none => rfl
      | some p => obtain ⟨ex, s1⟩ := p; cases ex <;> rfl
    | loop c =>
      refine (Fin.bind (ih c s) (F := fun p k => match p with
        | (.normal, s1) => evC k n (.loop c) s1
        | e => some e) fun p => ?_).congr fun k => ?_
      · obtain ⟨ex, s1⟩ := p
        cases ex with
        | normal => exact ih (.loop c) s1
        | _ => exact Fin.const _
      · simp only [evC]
        cases evC k n c s with
        | none => rfl
        | some p => obtain ⟨ex, s1⟩ := p; cases ex <;> rfl
    | exit id => exact Fin.const _
    | ret => exact Fin.const _
theorem fin_evS : ∀ (c : ACode) (s : St), Fin (fun k => evS k c s) := by
  intro c
  induction c with
  | skip => intro s; exact Fin.const _
  | ops l => intro s; exact fin_evOps l s
  | drawn l => intro s; exact Fin.const _
  | drawnP l => intro s; exact Fin.const _
  | seq a b iha ihb =>
    intro s
    refine (Fin.bind (iha s) (F := fun p k => match p with
      | (.normal, s1) => evS k b s1
      | e => some e) fun p => ?_).congr fun k => ?_
    · obtain ⟨ex, s1⟩ := p
      cases ex with
      | normal => exact ihb s1
      | _ => exact Fin.const _
    · simp only [evS]
      cases evS k a s with
      | none => rfl
      | some p => obtain ⟨ex, s1⟩ := p; cases ex <;> rfl
  | cond x a b iha ihb =>
    intro s
    simp only [evS]
    cases s.env x with
    | bool t => cases t with
      | true => exact iha s
      | false => exact ihb s
    | _ => exact Fin.const _
  | block id c ih =>
    intro s
    refine (Fin.bind (ih s) (F := fun p _ => match p with
      | (.exit i, s1) => if i = id then some (.normal, s1) else some (.exit i, s1)
      | e => some e) fun p => Fin.const _).congr fun k => ?_
    simp only [evS]
    cases evS k c s with
    | none => rfl
    | some p => obtain ⟨ex, s1⟩ := p; cases ex <;> rfl
  | loop c _ => intro s; exact Fin.const _
  | exit id => intro s; exact Fin.const _
  | ret => intro s; exact Fin.const _
theorem fin_leave (code : Nat → Option AFunc) (rs : List ARes) : ∀ (ds : List (Nat × Array Value)) (pm : Option Value) (s : St), Fin (fun k => leave k code rs ds pm s) := by
  intro ds
  induction ds with
  | nil => intro pm s; cases pm <;> exact Fin.const _
  | cons d ds ih =>
    intro pm s
    obtain ⟨f, args⟩ := d
    simp only [leave]
    cases code f with
    | none => exact Fin.const _
    | some fn =>
      simp only
      refine Fin.ite (Fin.const _) ?_
      refine (Fin.bind (fin_evS fn.body { t := enterT 0 args.toList .nil, H := s.H, ds := [], df := true, pm := pm.map fun v => (v, false) }) (F := fun p k => match p with
        | (.normal, s1) | (.ret, s1) => if s1.ds.isEmpty && fn.results.isEmpty then leave k code rs ds (match s1.pm with
          | some (v, false) => some v
          | _ => none) { s with H := s1.H } else none
        | _ => none) fun p => ?_).congr fun k => ?_
      · obtain ⟨ex, s1⟩ := p
        cases ex with
        | normal => exact Fin.ite (ih _ _) (Fin.const _)
        | ret => exact Fin.ite (ih _ _) (Fin.const _)
        | _ => exact Fin.const _
      · cases evS k fn.body _ with
        | none => rfl
        | some p => obtain ⟨ex, s1⟩ := p; cases ex <;> rfl
theorem evC_fuel {k : Caller} : ∀ (n : Nat) (c : ACode) (s : St) (r : AExit × St), evC k n c s = some r → ∀ m, n ≤ m → evC k m c s = some r := by
  intro n
  induction n with
  | zero => intro c s r h; simp [evC] at h
  | succ n ih =>
    intro c s r h m hm
    cases m with
    | zero => omega
    | succ m =>
      have hm' : n ≤ m := by omega
      cases c with
      | skip => exact h
      | ops l => exact h
      | drawn l => exact h
      | drawnP l => exact h
      | seq a b =>
        simp only [evC] at h ⊢
        split at h
        · rename_i s1 e1
          rw [ih _ _ _ e1 m hm']
          exact ih _ _ _ h m hm'
        · rename_i e hne
          rw [ih _ _ _ h m hm']
          split
          · rename_i s1 e1; exact absurd (h.trans e1) (hne s1)
          · rfl
      | cond x a b =>
        simp only [evC] at h ⊢
        split at h
        · exact ih _ _ _ h m hm'
        · exact ih _ _ _ h m hm'
        · cases h
      | block id c =>
        simp only [evC] at h ⊢
        split at h
        · rename_i i s1 e1
          rw [ih _ _ _ e1 m hm']
          exact h
        · rename_i e hne
          rw [ih _ _ _ h m hm']
          split
          · rename_i i s1 e1; exact absurd (h.trans e1) (hne i s1)
          · rfl
      | loop c =>
        simp only [evC] at h ⊢
        split at h
        · rename_i s1 e1
          rw [ih _ _ _ e1 m hm']
          exact ih _ _ _ h m hm'
        · rename_i e hne
          rw [ih _ _ _ h m hm']
          split
          · rename_i s1 e1; exact absurd (h.trans e1) (hne s1)
          · rfl
      | exit id => exact h
      | ret => exact h
theorem Fin.mono {β : Type} {E : Caller → Option β} (h : Fin E) {k k' : Caller} (hk : ∀ f a H r, k f a H = some r → k' f a H = some r) {r : β} (e : E k = some r) : E k' = some r := by
  obtain ⟨L, p, q⟩ := h k r e
  exact q k' fun x hx => hk _ _ _ _ (p x hx)
theorem evCall_mono {x : Caller} {code : Nat → Option AFunc} : ∀ (n m : Nat), n ≤ m → ∀ f a H r, evCall x code n f a H = some r → evCall x code m f a H = some r := by
  intro n
  induction n with
  | zero => intro m _ f a H r h; simp [evCall] at h
  | succ n ih =>
    intro m hm f a H r h
    cases m with
    | zero => omega
    | succ m =>
      have hk := ih m (by omega)
      simp only [evCall] at h ⊢
      split at h
      · exact h
      · split at h
        case h_2 => cases h
        rename_i fn hfn
        split at h
        · cases h
        rename_i hle
        rw [if_neg hle]
        have up : ∀ p, evC (evCall x code n) n fn.body { t := enterT 0 a.toList .nil, H, ds := [], df := false, pm := none } = some p → evC (evCall x code m) m fn.body { t := enterT 0 a.toList .nil, H, ds := [], df := false, pm := none } = some p :=
          fun p hp => evC_fuel _ _ _ _ ((fin_evC n _ _).mono hk hp) m (by omega)
        split at h
        · rename_i s e1; rw [up _ e1]; exact (fin_leave code _ _ _ _).mono hk h
        · rename_i s e1; rw [up _ e1]; exact (fin_leave code _ _ _ _).mono hk h
        · rename_i v s e1; rw [up _ e1]; exact (fin_leave code _ _ _ _).mono hk h
        · cases h
open Classical in
noncomputable def lim (x : Caller) (code : Nat → Option AFunc) : Caller := fun f a H => if h : ∃ r n, evCall x code n f a H = some r then some h.choose else none
theorem lim_iff {x : Caller} {code : Nat → Option AFunc} {f : Nat} {a : Array Value} {H : Hp} {r : CR} : lim x code f a H = some r ↔ ∃ n, evCall x code n f a H = some r := by
  unfold lim
  constructor
  · intro h
    split at h
    · rename_i hx
      cases h
      exact hx.choose_spec
    · cases h
  · rintro ⟨n, h⟩
    have hx : ∃ r n, evCall x code n f a H = some r := ⟨r, n, h⟩
    rw [dif_pos hx]
    obtain ⟨m, hm⟩ := hx.choose_spec
    have e1 := evCall_mono n (max n m) (by omega) _ _ _ _ h
    have e2 := evCall_mono m (max n m) (by omega) _ _ _ _ hm
    rw [e1] at e2
    exact e2.symm
theorem lim_ok {P : Program} {GL : List Nat} (hm : P.follows .mixedOrders = true) {x : Caller} (hx : CallOK P GL x) {code : Nat → Option AFunc} (hcode : CodeOK P GL code) : CallOK P GL (lim x code) := by
  intro f args H r h
  obtain ⟨n, hn⟩ := lim_iff.1 h
  exact call_ok hm hx hcode n f args H r hn
theorem lim_fin {x : Caller} {code : Nat → Option AFunc} {β : Type} {E : Caller → Option β} (h : Fin E) {r : β} (e : E (lim x code) = some r) : ∃ n, ∀ m, n ≤ m → E (evCall x code m) = some r := by
  obtain ⟨L, p, q⟩ := h _ r e
  have : ∃ n, ∀ m, n ≤ m → ∀ z ∈ L, evCall x code m z.1 z.2.1 z.2.2.1 = some z.2.2.2 := by
    clear q
    induction L with
    | nil => exact ⟨0, by simp⟩
    | cons z L ih =>
      obtain ⟨n1, h1⟩ := ih fun q hq => p q (List.mem_cons_of_mem _ hq)
      obtain ⟨n2, h2⟩ := lim_iff.1 (p z List.mem_cons_self)
      refine ⟨max n1 n2, fun m hm y hy => ?_⟩
      rcases List.mem_cons.1 hy with rfl | hy
      · exact evCall_mono n2 m (by omega) _ _ _ _ h2
      · exact h1 m (by omega) y hy
  obtain ⟨n, hn⟩ := this
  exact ⟨n, fun m hm => q _ (hn m hm)⟩
def W (k : Caller) (c : ACode) (s : St) (Q : AExit → St → Prop) : Prop := ∃ n ex s1, evC k n c s = some (ex, s1) ∧ Q ex s1
theorem lim_call {x : Caller} {code : Nat → Option AFunc} {f : Nat} {args : Array Value} {H : Hp} {fn : AFunc} {r : CR} (hx : x f args H = none ∨ x f args H = some r) (hf : code f = some fn) (hn : ¬ fn.ntmps < args.size)
    (h : W (lim x code) fn.body { t := enterT 0 args.toList .nil, H, ds := [], df := false, pm := none } fun ex s => match ex with
      | .normal | .ret => leave (lim x code) code fn.results s.ds none s = some r
      | .pan v => leave (lim x code) code fn.results s.ds (some v) s = some r
      | .exit _ => False) : lim x code f args H = some r := by
  rcases hx with hx | hx
  case inr => exact lim_iff.2 ⟨1, by simp only [evCall, hx]⟩
  obtain ⟨n, ex, s, he, hq⟩ := h
  obtain ⟨n1, h1⟩ := lim_fin (fin_evC n _ _) he
  have hl : ∃ pm n2, (∀ m, n2 ≤ m → leave (evCall x code m) code fn.results s.ds pm s = some r) ∧ ((ex = .normal ∨ ex = .ret) ∧ pm = none ∨ ∃ v, ex = .pan v ∧ pm = some v) := by
    cases ex with
    | normal => obtain ⟨n2, h2⟩ := lim_fin (fin_leave code _ _ _ _) hq; exact ⟨_, n2, h2, .inl ⟨.inl rfl, rfl⟩⟩
    | ret => obtain ⟨n2, h2⟩ := lim_fin (fin_leave code _ _ _ _) hq; exact ⟨_, n2, h2, .inl ⟨.inr rfl, rfl⟩⟩
    | pan v => obtain ⟨n2, h2⟩ := lim_fin (fin_leave code _ _ _ _) hq; exact ⟨_, n2, h2, .inr ⟨v, rfl, rfl⟩⟩
    | exit i => exact hq.elim
  obtain ⟨pm, n2, h2, h3⟩ := hl
  refine lim_iff.2 ⟨max n (max n1 n2) + 1, ?_⟩
  simp only [evCall, hx, hf, if_neg hn]
  rw [evC_fuel n _ _ _ (h1 _ (by omega)) _ (by omega)]
  have h2' := h2 (max n (max n1 n2)) (by omega)
  rcases h3 with ⟨rfl | rfl, rfl⟩ | ⟨v, rfl, rfl⟩ <;> exact h2'
section
variable {k : Caller} {s : St} {Q : AExit → St → Prop}
theorem W.mono {c : ACode} {Q' : AExit → St → Prop} (h : W k c s Q) (hq : ∀ ex s1, Q ex s1 → Q' ex s1) : W k c s Q' := by
  obtain ⟨n, ex, s1, h1, h2⟩ := h
  exact ⟨n, ex, s1, h1, hq _ _ h2⟩
theorem W.skip (h : Q .normal s) : W k .skip s Q := ⟨1, .normal, s, rfl, h⟩
theorem W.ret (h : Q .ret s) : W k .ret s Q := ⟨1, .ret, s, rfl, h⟩
theorem W.exit {i : Nat} (h : Q (.exit i) s) : W k (.exit i) s Q := ⟨1, .exit i, s, rfl, h⟩
theorem W.ops {l : List AOpr} {ex : AExit} {s1 : St} (e : evOps k l s = some (ex, s1)) (h : Q ex s1) : W k (.ops l) s Q := ⟨1, ex, s1, e, h⟩
theorem W.drawn {l : List DOpr} {ex : AExit} {s1 : St} (e : evDrawn k l s = some (ex, s1)) (h : Q ex s1) : W k (.drawn l) s Q := ⟨1, ex, s1, e, h⟩
theorem W.seq {a b : ACode} (h : W k a s fun ex s1 => match ex with
    | .normal => W k b s1 Q
    | e => Q e s1) : W k (.seq a b) s Q := by
  obtain ⟨n, ex, s1, h1, h2⟩ := h
  cases ex with
  | normal =>
    obtain ⟨m, ex2, s2, h3, h4⟩ := h2
    refine ⟨max n m + 1, ex2, s2, ?_, h4⟩
    simp only [evC, evC_fuel _ _ _ _ h1 (max n m) (by omega)]
    exact evC_fuel _ _ _ _ h3 (max n m) (by omega)
  | exit i => exact ⟨n + 1, .exit i, s1, by simp only [evC, h1], h2⟩
  | ret => exact ⟨n + 1, .ret, s1, by simp only [evC, h1], h2⟩
  | pan v => exact ⟨n + 1, .pan v, s1, by simp only [evC, h1], h2⟩
theorem W.cond {x : Operand} {a b : ACode} {t : Bool} (e : s.env x = .bool t) (h : W k (if t then a else b) s Q) : W k (.cond x a b) s Q := by
  obtain ⟨n, ex, s1, h1, h2⟩ := h
  refine ⟨n + 1, ex, s1, ?_, h2⟩
  cases t with
  | true => simp only [evC, e]; exact h1
  | false => simp only [evC, e]; exact h1
theorem W.block {i : Nat} {c : ACode} (h : W k c s fun ex s1 => match ex with
    | .exit j => if j = i then Q .normal s1 else Q (.exit j) s1
    | e => Q e s1) : W k (.block i c) s Q := by
  obtain ⟨n, ex, s1, h1, h2⟩ := h
  cases ex with
  | exit j =>
    dsimp only at h2
    by_cases hj : j = i
    · rw [if_pos hj] at h2
      exact ⟨n + 1, .normal, s1, by simp only [evC, h1, if_pos hj], h2⟩
    · rw [if_neg hj] at h2
      exact ⟨n + 1, .exit j, s1, by simp only [evC, h1, if_neg hj], h2⟩
  | normal => exact ⟨n + 1, .normal, s1, by simp only [evC, h1], h2⟩
  | ret => exact ⟨n + 1, .ret, s1, by simp only [evC, h1], h2⟩
  | pan v => exact ⟨n + 1, .pan v, s1, by simp only [evC, h1], h2⟩
theorem W.loop1 {c : ACode} (h : W k c s fun ex s1 => match ex with
    | .normal => W k (.loop c) s1 Q
    | e => Q e s1) : W k (.loop c) s Q := by
  obtain ⟨n, ex, s1, h1, h2⟩ := h
  cases ex with
  | normal =>
    obtain ⟨m, ex2, s2, h3, h4⟩ := h2
    refine ⟨max n m + 1, ex2, s2, ?_, h4⟩
    simp only [evC, evC_fuel _ _ _ _ h1 (max n m) (by omega)]
    exact evC_fuel _ _ _ _ h3 (max n m) (by omega)
  | exit i => exact ⟨n + 1, .exit i, s1, by simp only [evC, h1], h2⟩
  | ret => exact ⟨n + 1, .ret, s1, by simp only [evC, h1], h2⟩
  | pan v => exact ⟨n + 1, .pan v, s1, by simp only [evC, h1], h2⟩
theorem W.loop {c : ACode} (I : Nat → St → Prop) (m : Nat) (h0 : I m s)
    (step : ∀ m s, I m s → W k c s fun ex s1 => match ex with
      | .normal => ∃ m', m' < m ∧ I m' s1
      | e => Q e s1) : W k (.loop c) s Q := by
  have key : ∀ N m s, m ≤ N → I m s → W k (.loop c) s Q := by
    intro N
    induction N with
    | zero =>
      intro m s hm hi
      refine W.loop1 ((step m s hi).mono fun ex s1 hq => ?_)
      cases ex with
      | normal => obtain ⟨m', hlt, _⟩ := hq; omega
      | _ => exact hq
    | succ N ih =>
      intro m s hm hi
      refine W.loop1 ((step m s hi).mono fun ex s1 hq => ?_)
      cases ex with
      | normal => obtain ⟨m', hlt, hi'⟩ := hq; exact ih m' s1 (by omega) hi'
      | _ => exact hq
  exact key m m s (Nat.le_refl _) h0
end
theorem gp (s : St) (d : Nat) (v : Value) (j : Nat) : (s.put (some d) v).get j = if d = j then v else s.get j := by
  simp only [St.put, St.get, Tr.get_set]
  by_cases h : d = j
  · simp [h]
  · simp [h]
theorem env_tmp (s : St) (i : Nat) : s.env (.tmp i) = s.get i := rfl
theorem env_const (s : St) (v : Value) : s.env (.const v) = v := rfl
theorem get_enter (l : List Value) (H : Hp) (ds : List (Nat × Array Value)) (df : Bool) (pm : Option (Value × Bool)) (j : Nat) : (St.mk (enterT 0 l .nil) H ds df pm).get j = l.getD j undef := by
  simp only [St.get, enterT_get, Nat.zero_le, true_and, Nat.zero_add, Nat.sub_zero, List.getD_eq_getElem?_getD]
  by_cases h : j < l.length
  · rw [if_pos h]
  · rw [if_neg h, List.getElem?_eq_none (by omega)]; rfl
attribute [irreducible] W lim
end Go.Proofs.YtehbekgmemebjaaDoorEv
