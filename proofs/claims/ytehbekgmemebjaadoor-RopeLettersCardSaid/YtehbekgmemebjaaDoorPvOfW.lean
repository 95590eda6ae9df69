import Derived.Test.YtehbekgmemebjaaDoorPvHand
import Derived.Test.YtehbekgmemebjaaDoorPvMeas
import Derived.RangeFuncNested
import Derived.RangeFuncBound
import Derived.RangeFuncCalls
import Derived.RangeFuncLeaves
import Derived.RangeFuncBox
import Derived.Shelf.Abstract
import Derived.Shelf.RegionOpen
import Derived.WalkKit
import Derived.OwnWalkIn
import Derived.TacticsInMore
import Derived.LoopNIn
import Derived.LoopIn
import Derived.Maps.AppendAt
import Derived.Test.YtehbekgmemebjaaDoorProg
import Derived.Test.YtehbekgmemebjaaDoorPvK0
namespace Go.Proofs.YtehbekgmemebjaaDoorEv
open Go Go.Proofs.YtehbekgmemebjaaDoor.PAll Go.Proofs.YtehbekgmemebjaaDoor.PAll.H
abbrev N55 : Ty := .pair .str (.pair (.int .i64) (.pair (.int .i64) (.pair (.int .i64) .unit)))
abbrev Nd : Type := ByteArray × Int × Int × Int × Unit
def toS (x : Nd) : S55 := ⟨x.1, x.2.1, x.2.2.1, x.2.2.2.1⟩
theorem rep55 {H : Hp} {Z : Nat → Prop} {x : N55.den} {cs : List Value} (h : Rep H Z N55 x cs) : cs = enc55 (toS x) := by
  obtain ⟨c, d, rfl, rfl, c2, d2, rfl, rfl, c3, d3, rfl, rfl, c4, d4, rfl, rfl, rfl⟩ := h
  rfl
theorem reps55 {H : Hp} {Z : Nat → Prop} : ∀ {l : List N55.den} {ps : List (List Value)}, All2 (Rep H Z N55) l ps → ps.flatten = (l.map toS).flatMap enc55
  | [], [], _ => rfl
  | x :: l, p :: ps, h => by
    rw [List.flatten_cons, List.map_cons, List.flatMap_cons, reps55 h.2, rep55 h.1]
theorem reps_int {H : Hp} {Z : Nat → Prop} {k : IntKind} : ∀ l : List Int, All2 (Rep H Z (.int k)) l (l.map fun v => [Value.int k v])
  | [] => trivial
  | _ :: l => ⟨rfl, reps_int l⟩
theorem flat_int {k : IntKind} : ∀ l : List Int, (l.map fun v => [Value.int k v]).flatten = l.map (Value.int k)
  | [] => rfl
  | v :: l => by rw [List.map_cons, List.flatten_cons, flat_int l]; rfl
theorem repv_sl {H : Hp} {Z : Nat → Prop} {t : Ty} {x : List t.den} {v : Value} : RepV H Z (.sl t) x v ↔ Rep H Z (.sl t) x [v] := by
  unfold RepV
  rw [if_neg (by simp [Ty.isAgg])]
def F31 (_ : Nat) (e : List Nd × Unit) : Option (List Int × Int × Unit) := match lens (e.1.map toS) with
  | some out => some (out, (0 : Int), ())
  | none => some ([], (20 : Int), ())
def pc31 : PC KK GG := ⟨31, [.sl N55], [(.sl (.int .i64), none), (.int .i64, none)], F31, fun k H Z e vs hG hz ha r hr => by
  obtain ⟨v, rfl, hv⟩ := args1 ha
  rw [repv_sl] at hv
  obtain ⟨base, cp, hvv, hcase⟩ := hv
  simp only [List.cons.injEq, and_true] at hvv
  subst hvv
  have hA : e.1.map toS = [] ∨ ∃ b o sp bc u ro rst, base = some ⟨b, o, sp⟩ ∧ b < H.size ∧ H.get b = some (.cells bc u ro) ∧ bc.drop o = (e.1.map toS).flatMap enc55 ++ rst := by
    rcases hcase with ⟨h, _⟩ | ⟨b, o, sp, bc, u, ro, ps, rest, h1, h2, h3, h4, h5, _⟩
    · exact .inl (by rw [h]; rfl)
    · exact .inr ⟨b, o, sp, bc, u, ro, rest, h1, hz b h2, h3, by rw [h4, reps55 h5]⟩
  obtain ⟨H', hk, hc⟩ := K31 (cp := cp) hG hA
  rw [List.length_map] at hc
  have hk' : Kept H H' := hk
  unfold F31 at hr
  rcases hc with ⟨out, b, h1, hb, hlt, h2, h3, h4, _⟩ | ⟨h1, h2⟩
  · rw [h1] at hr
    cases hr
    refine ⟨_, H', fun c => Z c ∨ c = b, [_, _], h2, hk', fun _ h => .inl h, ?_, ?_, rfl, ?_, repv_int.2 rfl, trivial⟩
    · rintro c (h | rfl)
      · exact Nat.lt_of_lt_of_le (hz c h) hk'.1
      · exact hlt
    · rintro c (h | rfl) hl
      · exact h
      · exact absurd hl (by omega)
    · rw [repv_sl]
      refine ⟨_, _, by rw [← h4], .inr ⟨b, 0, none, _, _, _, out.map fun v => [Value.int .i64 v], [], rfl, .inr rfl, h3, ?_, reps_int out, .inr (.inl rfl), by decide, Nat.le_of_eq h4⟩⟩
      rw [flat_int]
      simp
  · rw [h1] at hr
    cases hr
    exact ⟨_, H', Z, [_, _], h2, hk', fun _ h => h, fun b hb => Nat.lt_of_lt_of_le (hz b hb) hk'.1, fun _ h _ => h, rfl, repv_sl.2 ⟨none, 0, rfl, .inl ⟨rfl, fun _ => rfl⟩⟩, repv_int.2 rfl, trivial⟩⟩
end Go.Proofs.YtehbekgmemebjaaDoorEv
namespace Go.Proofs.YtehbekgmemebjaaDoorEv
open Go Go.RowKit Go.Shelf
set_option linter.unusedVariables false
set_option linter.unusedSimpArgs false
attribute [local go_sem] Oper.semAt_some
abbrev NdO := ByteArray × Int × Int × Int × Unit
def encO (x : NdO) : List Value := [.string x.1, .int .i64 x.2.1, .int .i64 x.2.2.1, .int .i64 x.2.2.2.1]
def ofAssign : Code := (Code.region 5 #[{ dst := some 5, op := Op.assign (Operand.tmp 12), type := 9, pos := "rope.go:137", after := #[], guard := none }] false)
def ofBody : Code := (Code.block 1 ((Code.region 6 #[{ dst := some 13, op := Op.load 22 (Operand.tmp 4), type := 22, pos := "rope.go:138", after := #[], guard := none }, { dst := some 14, op := Op.move (Operand.tmp 5), type := 9, pos := "rope.go:138", after := #[], guard := none }, { dst := some 15, op := Op.build 55 #[(0, Operand.tmp 14)], type := 55, pos := "rope.go:138", after := #[{ on := 1, ground := Ground.data }], guard := none }, { dst := some 16, op := Op.buildSlice 22 1 #[(0, Operand.tmp 15)], type := 22, pos := "rope.go:138", after := #[{ on := 2, ground := Ground.data }], guard := none }, { dst := some 17, op := Op.call { callee := Callee.builtin Builtin.append, args := #[Operand.tmp 13, Operand.tmp 16], argTypes := #[22, 22] }, type := 22, pos := "rope.go:138", after := #[{ on := 0, ground := Ground.data }, { on := 3, ground := Ground.data }], guard := none }, { dst := none, op := Op.store 22 (Operand.tmp 4) (Operand.tmp 17), type := 0, pos := "rope.go:138", after := #[{ on := 4, ground := Ground.data }, { on := 4, ground := Ground.chain }, { on := 0, ground := Ground.phase }, { on := 1, ground := Ground.phase }, { on := 2, ground := Ground.phase }, { on := 3, ground := Ground.phase }, { on := 4, ground := Ground.phase }], guard := none }] false).seq ((Code.region 7 #[{ dst := some 18, op := Op.load 22 (Operand.tmp 4), type := 22, pos := "rope.go:139", after := #[], guard := none }, { dst := some 19, op := Op.call { callee := Callee.builtin Builtin.len, args := #[Operand.tmp 18], argTypes := #[22] }, type := 3, pos := "rope.go:139", after := #[{ on := 0, ground := Ground.data }], guard := none }, { dst := some 6, op := Op.assign (Operand.tmp 19), type := 3, pos := "rope.go:139", after := #[{ on := 1, ground := Ground.data }, { on := 0, ground := Ground.phase }, { on := 1, ground := Ground.phase }], guard := none }] false).seq ((Code.region 8 #[{ dst := some 20, op := Op.move (Operand.tmp 6), type := 3, pos := "rope.go:139", after := #[], guard := none }, { dst := some 21, op := Op.binOp BinOp.gtr 3 (Operand.tmp 20) (Operand.const (Value.int IntKind.i64 1)) 3, type := 4, pos := "rope.go:139", after := #[{ on := 0, ground := Ground.data }], guard := none }] false).seq (Code.cond (Operand.tmp 21) (Code.region 9 #[{ dst := some 22, op := Op.load 22 (Operand.tmp 4), type := 22, pos := "rope.go:140", after := #[], guard := none }, { dst := some 23, op := Op.move (Operand.tmp 6), type := 3, pos := "rope.go:140", after := #[], guard := none }, { dst := some 24, op := Op.binOp BinOp.sub 3 (Operand.tmp 23) (Operand.const (Value.int IntKind.i64 2)) 3, type := 3, pos := "rope.go:140", after := #[{ on := 1, ground := Ground.data }], guard := none }, { dst := some 25, op := Op.move (Operand.tmp 6), type := 3, pos := "rope.go:140", after := #[], guard := none }, { dst := some 26, op := Op.binOp BinOp.sub 3 (Operand.tmp 25) (Operand.const (Value.int IntKind.i64 1)) 3, type := 3, pos := "rope.go:140", after := #[{ on := 3, ground := Ground.data }], guard := none }, { dst := some 27, op := Op.build 55 #[(1, Operand.tmp 24), (2, Operand.tmp 26)], type := 55, pos := "rope.go:140", after := #[{ on := 2, ground := Ground.data }, { on := 4, ground := Ground.data }], guard := none }, { dst := some 28, op := Op.buildSlice 22 1 #[(0, Operand.tmp 27)], type := 22, pos := "rope.go:140", after := #[{ on := 5, ground := Ground.data }], guard := none }, { dst := some 29, op := Op.call { callee := Callee.builtin Builtin.append, args := #[Operand.tmp 22, Operand.tmp 28], argTypes := #[22, 22] }, type := 22, pos := "rope.go:140", after := #[{ on := 0, ground := Ground.data }, { on := 6, ground := Ground.data }], guard := none }, { dst := none, op := Op.store 22 (Operand.tmp 4) (Operand.tmp 29), type := 0, pos := "rope.go:140", after := #[{ on := 7, ground := Ground.data }, { on := 7, ground := Ground.chain }, { on := 0, ground := Ground.phase }, { on := 1, ground := Ground.phase }, { on := 2, ground := Ground.phase }, { on := 3, ground := Ground.phase }, { on := 4, ground := Ground.phase }, { on := 5, ground := Ground.phase }, { on := 6, ground := Ground.phase }, { on := 7, ground := Ground.phase }], guard := none }] false) Code.skip)))))
def ofRec (fn : FuncId) (s : ByteArray) (B Bw D : Nat) (st : LoopState) (pend : Option Code) : Loop :=
  { state := st, pending := pend, fn, tmps := #[.string s, undef, .slice none 0 0, .int .i64 0, .pointer (some ⟨B, 0, none⟩), undef, undef, .string s, .int .i64 0, .bool false, .string s, .func (.func 62) #[] #[.pointer (some ⟨Bw, 0, none⟩)], undef, undef, undef, undef, undef, undef, undef, undef, undef, undef, undef, undef, undef, undef, undef, undef, undef, undef, undef], params := #[12], assign := ofAssign, body := ofBody, defers := D }
structure OfAt (w0 : World) (fn : FuncId) (s : ByteArray) (B Bw l D : Nat) (rest : ByteArray) (out : List NdO) (W : World) : Prop where
  box : ∃ v, Boxed W B 22 v ∧ W.ownsRow w0.heap.size 55 4 v out.length (out.flatMap encO) ∧ (v = .slice none 0 0 ↔ out = [])
  wbox : Boxed W Bw 9 (.string rest)
  L : W.heap[l]? = some (.loop (ofRec fn s B Bw D .ready none))
  K : W.heap[D]? = some (.deferred (some []))
  below : Below w0.heap.size w0 W
theorem info55 : (Tryd.prog.info? 55).map (fun i => (i.zero, i.size, i.bytes)) = some (some (.agg #[.string ⟨#[]⟩, .int .i64 0, .int .i64 0, .int .i64 0]), 4, 40) := by kernel_rfl
set_option maxRecDepth 100000 in
set_option maxHeartbeats 2000000 in
theorem chunks_in (F : Fence) (n : Nat) (h42 : F.fn 42) (hro : F.round = none) (s : ByteArray) (w : World) :
    CallsIn F n Tryd.prog 42 #[.string s] w fun e w' => e = .returned (.func (.func 62) #[] #[.pointer (some ⟨w.heap.size, 0, none⟩)]) ∧ w' = w.alloc (.cells #[.string s] 9) := by
  refine callsIn_of_wp Tryd.func42 rfl h42 ?_ hro
  simp only [Tryd.ntmps42, List.size_toArray, List.length_cons, List.length_nil, Nat.reduceAdd, Nat.reduceSub, Array.replicate_succ, Array.replicate_zero, List.push_toArray, List.append_toArray, List.nil_append, List.cons_append]
  gi_wp2
  go_ret
  exact ⟨rfl, rfl⟩
set_option maxRecDepth 100000 in
set_option maxHeartbeats 2000000 in
theorem least_in (F : Fence) (n : Nat) (h52 : F.fn 52) (hro : F.round = none) (x : Int) (b : Nat) (w : World) (hc : w.cell? ⟨b, 0, none⟩ = some (.int .i64 100)) :
    CallsIn F n Tryd.prog 52 #[.int .i64 x, .slice (some ⟨b, 0, none⟩) 1 1] w fun e w' => e = .returned (.int .i64 (if 100 < x then 100 else x)) ∧ w' = w := by
  refine callsIn_of_wp Tryd.func52 rfl h52 ?_ hro
  simp only [Tryd.ntmps52, List.size_toArray, List.length_cons, List.length_nil, Nat.reduceAdd, Nat.reduceSub, Array.replicate_succ, Array.replicate_zero, List.push_toArray, List.append_toArray, List.nil_append, List.cons_append]
  gi_wp2
  gi_loop [0, 9] (fun v i => (i = .int .i64 0 ∧ v = .int .i64 x) ∨ (i = .int .i64 1 ∧ v = .int .i64 (if 100 < x then 100 else x))) (fun _ i => 1 - (intOf i).toNat)
  case atStart => exact .inl ⟨rfl, rfl⟩
  case round =>
    rcases hrel with ⟨rfl, rfl⟩ | ⟨rfl, rfl⟩
    · gi_wp2
      all_goals rename_i hx
      · exact ⟨.inr ⟨rfl, by rw [if_pos hx]⟩, by decide⟩
      · exact ⟨.inr ⟨rfl, by rw [if_neg (by omega)]⟩, by decide⟩
    · gi_wp2
      all_goals rename_i hx
      · go_ret
        exact ⟨rfl, rfl⟩
      · go_ret
        exact ⟨rfl, rfl⟩
theorem at_four (w : World) (a b c d : Value) (t : TypeId) : ∀ j u, [a, b, c, d][j]? = some u → (w.alloc (.cells #[a, b, c, d] t)).cell? ((⟨w.heap.size, 0, none⟩ : Addr).add j) = some u := by
  intro j u hj
  match j, hj with
  | 0, hj | 1, hj | 2, hj | 3, hj =>
    simp at hj
    subst hj
    simp [Addr.add]
theorem appended_box {W w1 : World} {n₀ B Bw : Nat} {size : Nat} {v v' u : Value} {k : Nat} {xs : List Value} {tmp : Obj} (hw : Boxed W Bw 9 u) (hrow : W.ownsRow n₀ 55 size v k xs) (hgrow : (W.alloc tmp).grownBy w1 v.ownBlock) (hne : Bw ≠ B) :
    Boxed (w1.setCell ⟨B, 0, none⟩ v') Bw 9 u :=
  ((hw.alloc tmp).kept hgrow (hw.not_row (by decide) hrow)).kept (grownBy_setCell' w1 B v') (fun e => hne (by cases e; rfl))
theorem ofEnd {w0 : World} {fn : FuncId} {s : ByteArray} {B Bw l D : Nat} (hBl : B ≠ l) (hwl : Bw ≠ l) (hDl : D ≠ l) (h0l : w0.heap.size ≤ l) {rest : ByteArray} {out : List NdO} {W2 W9 : World} {g n cap : Nat}
    (hL2 : W2.heap[l]? = some (.loop { ofRec fn s B Bw D .ready none with state := .busy })) (hK2 : W2.heap[D]? = some (.deferred (some []))) (hk : KeepsOthers W2 W9)
    (hv : Boxed W9 B 22 (.slice (some ⟨g, 0, none⟩) n cap)) (hr : W9.ownsRow w0.heap.size 55 4 (.slice (some ⟨g, 0, none⟩) n cap) out.length (out.flatMap encO)) (hne : out ≠ []) (hw : Boxed W9 Bw 9 (.string rest)) (hb : Below w0.heap.size w0 W9) :
    ∃ v w', (Instr.endRound l none).run Tryd.prog W9 = .ok v w' ∧ (Ending.returned v = .returned (.bool true) ∧ OfAt w0 fn s B Bw l D rest out w') := by
  have hL9 := hk.same l _ hL2 rfl
  have hK9 := hk.same D _ hK2 rfl
  refine ⟨_, _, run_endRound none hL9, rfl, ⟨⟨_, hv.kept (grownBy_putObj' _ _ _) (fun e => hBl (by cases e; rfl)), ownsRow_putObj hr _ hL9 rfl, by simp [hne]⟩, hw.kept (grownBy_putObj' _ _ _) (fun e => hwl (by cases e; rfl)), World.putObj_heap_same (Array.getElem?_eq_some_iff.1 hL9).1, (World.putObj_heap_other hDl).trans hK9, hb.grown (grownBy_putObj' _ _ _) hb.size (fun k e => by cases e; exact h0l)⟩⟩
set_option maxRecDepth 100000 in
set_option maxHeartbeats 4000000 in
theorem ofRound (F : Fence) (m : Nat) (w0 : World) (fn : FuncId) (hfn : F.fn fn) (s : ByteArray) (B Bw l D : Nat) (hBl : B ≠ l) (hwl : Bw ≠ l) (hDl : D ≠ l) (hDB : D ≠ B) (hBw : Bw ≠ B) (h0B : w0.heap.size ≤ B) (h0l : w0.heap.size ≤ l)
    (rest : ByteArray) (out : List NdO) (x : ByteArray) (W : World) (h : OfAt w0 fn s B Bw l D rest out W) (hlen : out.length ≤ 1000000) :
    YieldAt F m Tryd.prog l #[.string x] W fun e W' => e = .returned (.bool true) ∧ OfAt w0 fn s B Bw l D rest (ofStep out x) W' := by
  obtain ⟨i0, hi, hz0, hz1, hz2⟩ := info_parts info55
  obtain ⟨v, hv, hrow, hnil⟩ := h.box
  refine ⟨fn, #[.string s, undef, .slice none 0 0, .int .i64 0, .pointer (some ⟨B, 0, none⟩), undef, undef, .string s, .int .i64 0, .bool false, .string s, .func (.func 62) #[] #[.pointer (some ⟨Bw, 0, none⟩)], .string x, undef, undef, undef, undef, undef, undef, undef, undef, undef, undef, undef, undef, undef, undef, undef, undef, undef, undef], ofAssign, ofBody, by simpa [ofRec] using run_yield (P := Tryd.prog) (args := #[.string x]) h.L rfl, roundIn_of_wpIn hfn ?_⟩
  have hbr := run_beginRound (P := Tryd.prog) h.L rfl
  obtain ⟨W2, hW2⟩ : ∃ W2, W.putObj l (.loop { ofRec fn s B Bw D .ready none with state := .busy }) = W2 := ⟨_, rfl⟩
  rw [hW2] at hbr
  have hg2 : W.grownBy W2 (some l) := by rw [← hW2]; exact grownBy_putObj' _ _ _
  have hv2 : Boxed W2 B 22 v := hv.kept hg2 (fun e => hBl (by cases e; rfl))
  have hw2 : Boxed W2 Bw 9 (.string rest) := h.wbox.kept hg2 (fun e => hwl (by cases e; rfl))
  have hK2 : W2.heap[D]? = some (.deferred (some [])) := by rw [← hW2]; exact (World.putObj_heap_other hDl).trans h.K
  have hL2 : W2.heap[l]? = some (.loop { ofRec fn s B Bw D .ready none with state := .busy }) := by rw [← hW2]; exact World.putObj_heap_same (Array.getElem?_eq_some_iff.1 h.L).1
  have hrow2 : W2.ownsRow w0.heap.size 55 4 v out.length (out.flatMap encO) := by rw [← hW2]; exact ownsRow_putObj hrow _ h.L rfl
  have hb2 : Below w0.heap.size w0 W2 := h.below.grown hg2 h.below.size (fun k e => by cases e; exact h0l)
  clear hW2 hg2
  have hc2 := hv2.cell
  unfold ofAssign
  gi_wp2
  unfold ofBody
  gi_wp2_with (first
    | (gi_at_builtin; refine wpListIn_append_own _ rfl _ _ 22 rfl w0.heap.size 55 i0 (.agg #[.string ⟨#[]⟩, .int .i64 0, .int .i64 0, .int .i64 0]) 4 40 Tryd.underlying22 hi hz0 hz1 hz2 rfl (by decide) _ _ _ rfl (hr4.alloc _) ⟨_, 0, none⟩ 1 1 (encO (pairN ((out.length : Int) + 1 - 2) (out.length : Int))) rfl rfl (by have h9 := at_four (w1.setCell ⟨B, 0, none⟩ (.slice (some ⟨g', 0, none⟩) (out.length + 1) cap')) (.string ⟨#[]⟩) (.int .i64 ((out.length : Int) + 1 - 2)) (.int .i64 (out.length : Int)) (.int .i64 0) 55; rw [World.size_setCell] at h9; exact h9) (by simp [Value.oneCell', encO, pairN]) (by simp only [maxLen]; omega) (by omega) (by have := (hb2.trans hb4).size; rw [World.size_alloc]; omega) ?_
       intro v'' w5 hown5 hgrow5 _
       obtain ⟨g'', cap'', rfl⟩ := ownsRow_succ hown5
       obtain ⟨hv5, hv6, hr6, hk6, hb6⟩ := hv4.appended (by decide) hr4 (hb2.trans hb4).size h0B hown5 hgrow5
       have hw6 := appended_box (B := B) (v' := .slice (some ⟨g'', 0, none⟩) (out.length + 1 + 1) cap'') hw4 hr4 hgrow5 hBw
       have hc5 := hv5.cell
       have hf5 := hv5.frozen)
    | (gi_at_builtin; refine wpListIn_append_own _ rfl _ _ 22 rfl w0.heap.size 55 i0 (.agg #[.string ⟨#[]⟩, .int .i64 0, .int .i64 0, .int .i64 0]) 4 40 Tryd.underlying22 hi hz0 hz1 hz2 rfl (by decide) _ _ _ rfl (hrow2.alloc _) ⟨W2.heap.size, 0, none⟩ 1 1 (encO (leafN x)) rfl rfl (at_four _ _ _ _ _ _) (by simp [Value.oneCell', encO, leafN]) (by simp only [maxLen]; omega) (by omega) (by have := hb2.size; simp; omega) ?_
       intro v' w1 hown' hgrow _
       obtain ⟨g', cap', rfl⟩ := ownsRow_succ hown'
       obtain ⟨hv3, hv4, hr4, hk4, hb4⟩ := hv2.appended (by decide) hrow2 hb2.size h0B hown' hgrow
       have hc3 := hv3.cell
       have hf3 := hv3.frozen
       have hw4 := appended_box (B := B) (v' := .slice (some ⟨g', 0, none⟩) (out.length + 1) cap') hw2 hrow2 hgrow hBw
       have hc4 := hv4.cell))
  · have hlen' : ¬ out.length = 0 := by rename_i hx _; omega
    have e : ofStep out x = out ++ [leafN x] ++ [pairN ((out.length : Int) + 1 - 2) (out.length : Int)] := by
      unfold ofStep
      rw [if_neg hlen', show (out.length : Int) + 1 - 2 = (out.length : Int) - 1 by omega]
    rw [e]
    refine ofEnd hBl hwl hDl h0l hL2 hK2 (hk4.trans hk6) hv6 ?_ (by simp) hw6 ((hb2.trans hb4).trans hb6)
    simpa using hr6
  · have hlen' : out.length = 0 := by omega
    have e : ofStep out x = [leafN x] := by unfold ofStep; rw [if_pos hlen']
    rw [e]
    obtain rfl := List.length_eq_zero_iff.1 hlen'
    refine ofEnd hBl hwl hDl h0l hL2 hK2 hk4 hv4 ?_ (by simp) hw4 (hb2.trans hb4)
    simpa using hr4
theorem OfAt.alloc {w0 : World} {fn : FuncId} {s : ByteArray} {B Bw l D : Nat} {rest : ByteArray} {out : List NdO} {W : World} (h : OfAt w0 fn s B Bw l D rest out W) (o : Obj) : OfAt w0 fn s B Bw l D rest out (W.alloc o) := by
  obtain ⟨v, hv, hr, hn⟩ := h.box
  exact ⟨⟨v, hv.alloc o, hr.alloc o, hn⟩, h.wbox.alloc o, (Below.heap_alloc _ _ _ (Array.getElem?_eq_some_iff.1 h.L).1).trans h.L, (Below.heap_alloc _ _ _ (Array.getElem?_eq_some_iff.1 h.K).1).trans h.K, h.below.alloc h.below.size o⟩
theorem OfAt.set {w0 : World} {fn : FuncId} {s : ByteArray} {B Bw l D : Nat} (hBw : Bw ≠ B) (h0w : w0.heap.size ≤ Bw) {rest : ByteArray} {out : List NdO} {W : World} (h : OfAt w0 fn s B Bw l D rest out W) (rest' : ByteArray) : OfAt w0 fn s B Bw l D rest' out (W.setCell ⟨Bw, 0, none⟩ (.string rest')) := by
  obtain ⟨v, hv, hr, hn⟩ := h.box
  exact ⟨⟨v, hv.kept (grownBy_setCell' _ _ _) (fun e => hBw (by cases e; rfl)), hr.kept (grownBy_setCell' _ _ _) (.inr (h.wbox.not_row (by decide) hr).symm), hn⟩, h.wbox.set _, (KeepsOthers.setCell _ _ _).same _ _ h.L rfl, (KeepsOthers.setCell _ _ _).same _ _ h.K rfl, h.below.setCell (p := ⟨Bw, 0, none⟩) h0w _⟩
def leftO (W : World) (Bw : Nat) : Nat := match W.cell? ⟨Bw, 0, none⟩ with
  | some (.string b) => b.size
  | _ => 0
theorem leftO_eq {W : World} {Bw : Nat} {b : ByteArray} (h : Boxed W Bw 9 (.string b)) : leftO W Bw = b.size := by unfold leftO; rw [h.cell]
set_option maxRecDepth 100000 in
set_option maxHeartbeats 4000000 in
theorem iter_in (F : Fence) (n : Nat) (h62 : F.fn 62) (h52 : F.fn 52) (hro : F.round = none) (hn : 1 ≤ n) (w0 : World) (fn : FuncId) (hfn : F.fn fn) (s : ByteArray) (B Bw l D : Nat) (hBl : B ≠ l) (hwl : Bw ≠ l) (hDl : D ≠ l) (hDB : D ≠ B) (hBw : Bw ≠ B) (h0B : w0.heap.size ≤ B) (h0w : w0.heap.size ≤ Bw) (h0l : w0.heap.size ≤ l)
    (W : World) (h : OfAt w0 fn s B Bw l D s [] W) (hsz : s.size ≤ 100000) :
    CallsIn F n Tryd.prog 62 #[.func (.yield l) #[] #[], .pointer (some ⟨Bw, 0, none⟩)] W fun e W' => (∃ v, e = .returned v) ∧ ∃ rest, OfAt w0 fn s B Bw l D rest (ofS s) W' := by
  refine callsIn_of_wp Tryd.func62 rfl h62 ?_ hro
  simp only [Tryd.ntmps62, List.size_toArray, List.length_cons, List.length_nil, Nat.reduceAdd, Nat.reduceSub, Array.replicate_succ, Array.replicate_zero, List.push_toArray, List.append_toArray, List.nil_append, List.cons_append]
  gi_wp2
  gi_loopw [3] (fun _ wr => ∃ (rest : ByteArray) (out : List NdO) (k : Nat), OfAt w0 fn s B Bw l D rest out wr ∧ rest.size < k ∧ ofF k out rest = ofS s ∧ out.length + 2 * rest.size ≤ 1000000) (fun _ wr => leftO wr Bw)
  case atStart =>
    exact ⟨s, [], s.size + 1, h, by omega, rfl, by simp; omega⟩
  case round =>
    obtain ⟨rest, out, k, hO, hk, hF, hl⟩ := hrel
    have hc := hO.wbox.cell
    obtain ⟨N, hN⟩ : ∃ N, min rest.size 100 = N := ⟨_, rfl⟩
    have hm : (if (100 : Int) < (rest.size : Int) then (100 : Int) else (rest.size : Int)) = (N : Int) := by split <;> omega
    have hO1 := hO.alloc (.cells #[.int .i64 100] 3)
    have hc1 := hO1.wbox.cell
    obtain ⟨fn', tmps, assign, body, hy, hR⟩ := ofRound F (n - 1) w0 fn hfn s B Bw l D hBl hwl hDl hDB hBw h0B h0l rest out (rest.extract 0 N) _ hO1 (by omega)
    have hle : CallsIn F (n - 1) Tryd.prog 52 #[.int .i64 (rest.size : Int), .slice (some ⟨wr.heap.size, 0, none⟩) 1 1] (wr.alloc (.cells #[.int .i64 100] 3)) fun e w' => e = .returned (.int .i64 (N : Int)) ∧ w' = wr.alloc (.cells #[.int .i64 100] 3) := by
      rw [← hm]
      exact least_in F _ h52 hro _ _ _ (by simp)
    gi_wp2_with (gi_at_call 52; refine hle.mono ?_; rintro e w' ⟨rfl, rfl⟩)
    · have hpos : 0 < rest.size := by omega
      refine hR.mono ?_
      rintro e W3 ⟨rfl, h3⟩
      have hc3 := h3.wbox.cell
      have hf3 := h3.wbox.frozen
      have hNle : N ≤ rest.size := by omega
      gi_wp2
      go_roundw
      case rel =>
        obtain ⟨k', rfl⟩ : ∃ k', k = k' + 1 := ⟨k - 1, by omega⟩
        refine ⟨rest.extract N rest.size, ofStep out (rest.extract 0 N), k', h3.set hBw h0w _, ?_, ?_, ?_⟩
        · rw [ByteArray.size_extract]; omega
        · rw [ofF, if_neg (by omega), hN] at hF; exact hF
        · have : (ofStep out (rest.extract 0 N)).length ≤ out.length + 2 := by
            unfold ofStep
            split
            · simp
            · simp
          rw [ByteArray.size_extract]; omega
      case measure =>
        rw [leftO_eq hO.wbox, leftO_eq (h3.set hBw h0w _).wbox, ByteArray.size_extract]; omega
    · have h0 : rest.size = 0 := by omega
      go_end0
      obtain ⟨k', rfl⟩ : ∃ k', k = k' + 1 := ⟨k - 1, by omega⟩
      rw [ofF, if_pos h0] at hF
      subst hF
      exact ⟨⟨_, rfl⟩, rest, hO⟩
set_option maxRecDepth 100000 in
set_option maxHeartbeats 4000000 in
theorem Of_calls (s : ByteArray) (w : World) (c : Int) (h41 : Calls Tryd.prog 41 #[.int .i64 8, .string s] w fun e w' => e = .returned (.int .i64 c) ∧ Below w.heap.size w w') (hc0 : c = 0 → s.size ≤ 100000) :
    Calls Tryd.prog 20 #[.string s] w fun e w' => Below w.heap.size w w' ∧ ((c ≠ 0 ∧ e = .returned (.tuple #[.slice none 0 0, .int .i64 1])) ∨
      (c = 0 ∧ ∃ v, e = .returned (.tuple #[v, .int .i64 0]) ∧ w'.ownsRow w.heap.size 55 4 v (ofS s).length ((ofS s).flatMap encO) ∧ (v = .slice none 0 0 ↔ ofS s = []))) := by
  refine (callsIn_wide (n := 3)).1 ?_
  have hro : Fence.wide.round = none := rfl
  refine callsIn_of_wp_marks Tryd.func20 rfl trivial ?_ hro
  simp only [Tryd.ntmps20, List.size_toArray, List.length_cons, List.length_nil, Nat.reduceAdd, Nat.reduceSub, Array.replicate_succ, Array.replicate_zero, List.push_toArray, List.append_toArray, List.nil_append, List.cons_append]
  gi_wp2_with (first
    | (refine ⟨trivial, ?_⟩; gi_at_call 41; refine (callsIn_wide.2 h41).mono ?_; rintro e w1 ⟨rfl, hb1⟩)
    | (gi_at_call 41; refine (callsIn_wide.2 h41).mono ?_; rintro e w1 ⟨rfl, hb1⟩)
    | (refine ⟨trivial, ?_⟩; gi_at_call 42; refine (chunks_in _ _ trivial hro _ _).mono ?_; rintro e w' ⟨rfl, rfl⟩)
    | (gi_at_call 42; refine (chunks_in _ _ trivial hro _ _).mono ?_; rintro e w' ⟨rfl, rfl⟩))
  · rename_i hx
    have hne : c ≠ 0 := by simpa using hx
    exact ⟨_, results_tmp2 rfl _ _ _, hb1, .inl ⟨hne, rfl⟩⟩
  · rename_i hx _ _
    obtain rfl : c = 0 := by simpa using hx
    have hsz := hc0 rfl
    refine wpIn_rangeFunc ?_
    intro fn hfn
    rw [hro]
    obtain ⟨W0, hW0⟩ : ∃ W0, (w1.alloc (.cells #[.slice none 0 0] 22)).alloc (.cells #[.string s] 9) = W0 := ⟨_, rfl⟩
    have hs0 : W0.heap.size = w1.heap.size + 2 := by rw [← hW0]; simp
    have hB0 : Boxed W0 w1.heap.size 22 (.slice none 0 0) := by rw [← hW0]; exact (Boxed.new w1 22 _).alloc _
    have hw0 : Boxed W0 (w1.heap.size + 1) 9 (.string s) := by
      rw [← hW0]
      have := Boxed.new (w1.alloc (.cells #[.slice none 0 0] 22)) 9 (.string s)
      rwa [World.size_alloc] at this
    have hb0 : Below w.heap.size w W0 := by rw [← hW0]; exact (hb1.alloc hb1.size _).alloc (by rw [World.size_alloc]; have := hb1.size; omega) _
    rw [hW0]
    obtain ⟨W1, hW1⟩ : ∃ W1, (W0.alloc (.deferred (some []))).alloc (.loop (ofRec fn s w1.heap.size (w1.heap.size + 1) W0.heap.size .ready none)) = W1 := ⟨_, rfl⟩
    have hh : w.heap.size ≤ w1.heap.size := hb1.size
    have hM : OfAt w fn s w1.heap.size (w1.heap.size + 1) (W0.heap.size + 1) W0.heap.size s [] W1 := by
      rw [← hW1]
      refine ⟨⟨_, (hB0.alloc _).alloc _, ⟨rfl, .inl ⟨rfl, rfl⟩⟩, by simp⟩, (hw0.alloc _).alloc _, ?_, ?_, (hb0.alloc hb0.size _).alloc (by rw [World.size_alloc]; have := hb0.size; omega) _⟩
      · have := World.alloc_heap_new (W0.alloc (.deferred (some []))) (.loop (ofRec fn s w1.heap.size (w1.heap.size + 1) W0.heap.size .ready none))
        rwa [World.size_alloc] at this
      · exact (Below.heap_alloc _ _ _ (by simp)).trans (World.alloc_heap_new W0 _)
    refine ⟨W0.heap.size + 1, [{ target := .collected W0.heap.size, args := #[] }], W1, { target := .fn (.func 62) #[.pointer (some ⟨w1.heap.size + 1, 0, none⟩)], args := #[.func (.yield (W0.heap.size + 1)) #[] #[]] }, W1, 62,
      #[.func (.yield (W0.heap.size + 1)) #[] #[], .pointer (some ⟨w1.heap.size + 1, 0, none⟩)], W1, ?_, ?_, ?_, ?_, fun _ => by omega, ?_⟩
    · rw [← hW1]; exact run_enterLoop_outer _ _ _ _ _
    · simp [resolve, go_sem]
    · intro f' hf'; trivial
    · simp [invoke, go_sem]
    · refine (iter_in Fence.wide _ trivial trivial hro (by omega) w fn hfn s w1.heap.size (w1.heap.size + 1) (W0.heap.size + 1) W0.heap.size (by omega) (by omega) (by omega) (by omega) (by omega) (by omega) (by omega) (by omega) W1 hM hsz).mono ?_
      rintro e W2 ⟨⟨v, rfl⟩, rest, h2⟩
      obtain ⟨v', hv', hr', hn'⟩ := h2.box
      have hend := run_endLoop (P := Tryd.prog) h2.L (by simp [ofRec])
      obtain ⟨W3, hW3⟩ : ∃ W3, W2.putObj (W0.heap.size + 1) (.loop { ofRec fn s w1.heap.size (w1.heap.size + 1) W0.heap.size .ready none with state := .exhausted }) = W3 := ⟨_, rfl⟩
      rw [hW3] at hend
      have hv3 : Boxed W3 w1.heap.size 22 v' := by rw [← hW3]; exact hv'.kept (grownBy_putObj' _ _ _) (fun e => by have := Option.some.inj e; omega)
      have hr3 : W3.ownsRow w.heap.size 55 4 v' (ofS s).length ((ofS s).flatMap encO) := by rw [← hW3]; exact ownsRow_putObj hr' _ h2.L rfl
      have hK3 : W3.heap[W0.heap.size]? = some (.deferred (some [])) := by rw [← hW3]; exact (World.putObj_heap_other (by omega)).trans h2.K
      have hb3 : Below w.heap.size w W3 := by rw [← hW3]; exact h2.below.grown (grownBy_putObj' _ _ _) h2.below.size (fun k e => by cases e; omega)
      clear hW3
      have hc3 := hv3.cell
      refine ⟨none, W3, hend, ?_⟩
      gi_wp2
      rw [← hs0]
      refine ⟨by simp, .inl ⟨_, _, rfl, run_takeDeferred hK3, ?_⟩⟩
      exact ⟨_, results_tmp2 rfl _ _ _, hb3.grown (grownBy_putObj' _ _ _) hb3.size (fun k e => by have := Option.some.inj e; omega), v', rfl, ownsRow_putObj hr3 _ hK3 rfl, hn'⟩
end Go.Proofs.YtehbekgmemebjaaDoorEv
