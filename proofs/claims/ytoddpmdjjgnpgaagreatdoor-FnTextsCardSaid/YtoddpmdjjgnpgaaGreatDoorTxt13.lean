/-
  ParseLinks of the program.
-/
import Derived.Test.YtoddpmdjjgnpgaaGreatDoorTxt11
import Derived.Test.YtoddpmdjjgnpgaaGreatDoorTxt12
import Derived.Maps.AppendAt
namespace Go.Proofs.YtoddpmdjjgnpgaaGreatDoor
open Go.RowKit Go.Shelf
set_option linter.unusedVariables false
section
open Classical
/-- the number of a text, 0 where it is none -/
noncomputable def valN (s : ByteArray) : Int := if h : ∃ n, IsNum s n then Classical.choose h else 0
end
theorem VN.val {s : ByteArray} {n : Int} (h : VN s n) : n = valN s := by
  unfold valN
  rcases h with h | ⟨h, rfl⟩
  · have hex : ∃ n, IsNum s n := ⟨n, h⟩
    rw [dif_pos hex]
    exact h.uniq (Classical.choose_spec hex)
  · rw [dif_neg (fun ⟨n, hn⟩ => h n hn)]
theorem valN_vn (s : ByteArray) : VN s (valN s) := by
  by_cases h : ∃ n, IsNum s n
  · obtain ⟨n, hn⟩ := h
    have := VN.val (.inl hn : VN s n)
    rw [← this]; exact .inl hn
  · have := VN.val (.inr ⟨fun m hm => h ⟨m, hm⟩, rfl⟩ : VN s 0)
    rw [← this]; exact .inr ⟨fun m hm => h ⟨m, hm⟩, rfl⟩
theorem RetPI.val {s : ByteArray} {w w' : World} {e : Ending} (h : RetPI s w e w') : ∃ b, e = .returned (.tuple #[.int .i64 (valN s), .bool b]) ∧ Below w.heap.size w w' := by
  obtain ⟨n, b, rfl, hc, hb⟩ := h
  refine ⟨b, ?_, hb⟩
  have hv : VN s n := by
    rcases hc with ⟨_, h⟩ | ⟨_, h, h'⟩
    · exact .inl h
    · exact .inr ⟨h', h⟩
  rw [← hv.val]
def head45 (s : ByteArray) : Bool := if h : 0 < s.size then ((((s[0]'h).toNat : Nat) : Int) == 45) else false
theorem head45_at {s : ByteArray} (h : 0 < s.size) : ((((s[0]'h).toNat : Nat) : Int) == 45) = head45 s := by unfold head45; rw [dif_pos h]
theorem setGrownL (w : World) (B o : Nat) (v : Value) : w.grownBy (w.setCell ⟨B, o, none⟩ v) (some B) :=
  ⟨rfl, rfl, rfl, (KeepsWalks.setCell w _ v).size, fun k _ hk => Below.heap_setCell _ _ _ k (fun e => hk (by rw [e]))⟩
/-- a part, read by the program -/
noncomputable def pLink (s : ByteArray) : LkZ := (valN (cutB (s.extract 1 s.size) 64).1, valN (cutB (s.extract 1 s.size) 64).2.1, head45 s)
theorem pLink_good {s : ByteArray} (h : 0 < s.size) : GoodQ s (pLink s) := ⟨h, valN_vn _, valN_vn _, head45_at h⟩
theorem pLink_in (s : ByteArray) : InK (pLink s) := ⟨(valN_vn _).rng, (valN_vn _).rng⟩
theorem pMap_rng : ∀ P : List ByteArray, RngK (P.map pLink) := fun P j hj => by
  rw [nthK_lt hj, List.getElem_map]; exact pLink_in _
set_option maxHeartbeats 1000000 in
theorem splitSeq_any (s : ByteArray) (c : UInt8) (w : World) :
    Calls Tryz.prog 78 #[.string s, .string ⟨#[c]⟩] w fun e w' => e = .returned (.func (.func 165) #[] #[.pointer (some ⟨w.heap.size + 1, 0, none⟩), .pointer (some ⟨w.heap.size, 0, none⟩), .pointer (some ⟨w.heap.size + 1 + 1, 0, none⟩)]) ∧ w' = ((w.alloc (.cells #[.string s] 9)).alloc (.cells #[.string ⟨#[c]⟩] 9)).alloc (.cells #[.int .i64 0] 3) := by
  have H1 : Hid (Calls Tryz.prog 123 #[.string s, .string ⟨#[c]⟩, .int .i64 0] w fun e w' => e = .returned (.func (.func 165) #[] #[.pointer (some ⟨w.heap.size + 1, 0, none⟩), .pointer (some ⟨w.heap.size, 0, none⟩), .pointer (some ⟨w.heap.size + 1 + 1, 0, none⟩)]) ∧ w' = ((w.alloc (.cells #[.string s] 9)).alloc (.cells #[.string ⟨#[c]⟩] 9)).alloc (.cells #[.int .i64 0] 3)) := Lib.hid (by
    go_enter Tryz.func123, Tryz.ntmps123
    go_wp2_with fail
    go_ret
    exact ⟨rfl, rfl⟩)
  go_enter Tryz.func78, Tryz.ntmps78
  go_wp2_with fail
  refine H1.out.mono ?_
  rintro e w2 ⟨rfl, rfl⟩
  go_wp2_with fail
  go_ret
  exact ⟨rfl, rfl⟩
/-! ### what lies where, between two rounds -/
theorem boxed_later {W W' : World} {B : Nat} {T : TypeId} {v : Value} (h : Boxed W B T v) (hb : Below W.heap.size W W') : Boxed W' B T v := (hb.block B h.lt).trans h
theorem Kp5.below {Bp Bs Bv D : Nat} {A B : World} (hb : Below A.heap.size A B) (h1 : Bp < A.heap.size) (h2 : Bs < A.heap.size) (h3 : Bv < A.heap.size) (h4 : D + 1 < A.heap.size) : Kp5 Bp Bs Bv D A B :=
  ⟨⟨hb.block _ h1, hb.block _ h2, hb.block _ h3⟩, hb.block _ (by omega), hb.block _ h4⟩
/-- the boxes of the results and of the list, the list's row; B: the first of the boxes; D: the loop's first block -/
structure RS (B D : Nat) (w W : World) (v : Value) (pre : List ByteArray) : Prop where
  box : Boxed W (B + 1 + 1) 52 v
  row : W.ownsRow (D + 1 + 1) 114 3 v pre.length (linkCells (pre.map pLink))
  r0 : Boxed W B 52 (.slice none 0 0)
  r1 : Boxed W (B + 1) 4 (.bool false)
  bel : Below B w W
theorem RS.later {B D : Nat} {w W W' : World} {v : Value} {pre : List ByteArray} (h : RS B D w W v pre) (hb : Below W.heap.size W W') (hB : B ≤ W.heap.size) : RS B D w W' v pre :=
  ⟨boxed_later h.box hb, owns_later h.row hb, boxed_later h.r0 hb, boxed_later h.r1 hb, h.bel.trans (hb.mono hB)⟩
/-- a store into a block of the round's own -/
theorem RS.other {B D : Nat} {w W : World} {v : Value} {pre : List ByteArray} (h : RS B D w W v pre) {b : Nat} (o : Nat) (u : Value) (hb : B + 1 + 1 < b) (hrow : ∀ k, v.ownBlock = some k → k ≠ b) : RS B D w (W.setCell ⟨b, o, none⟩ u) v pre := by
  have hg := setGrownL W b o u
  refine ⟨h.box.kept hg (fun e => by have := Option.some.inj e; omega), h.row.kept hg ?_, h.r0.kept hg (fun e => by have := Option.some.inj e; omega), h.r1.kept hg (fun e => by have := Option.some.inj e; omega), h.bel.setCell (p := ⟨b, o, none⟩) (by show B ≤ b; omega) u⟩
  cases e : v.ownBlock with
  | none => exact .inl rfl
  | some k => exact .inr fun e2 => hrow k e (Option.some.inj e2)
/-- 'list = append(list, x)' -/
theorem RS.put {B D : Nat} {w W w1 : World} {v v' : Value} {pre : List ByteArray} {x : ByteArray} {o : Obj} (h : RS B D w W v pre) (hB : B ≤ W.heap.size) (hBD : B + 1 + 1 < D) (hr : w1.ownsRow (D + 1 + 1) 114 3 v' (pre.length + 1) (linkCells (pre.map pLink) ++ lkCell (pLink x))) (hg : (W.alloc o).grownBy w1 v.ownBlock) :
    RS B D w (w1.setCell ⟨B + 1 + 1, 0, none⟩ v') v' (pre ++ [x]) := by
  have hv : ∀ k, v.ownBlock = some k → D + 1 + 1 ≤ k := fun k hk => (h.row.lt k hk).1
  have hv' : ∀ k, v'.ownBlock = some k → D + 1 + 1 ≤ k := fun k hk => (hr.lt k hk).1
  have hk : ∀ {b T u}, Boxed W b T u → b < D → Boxed w1 b T u := fun {b T u} hb hlt => (hb.alloc o).kept hg (fun e => by have := hv _ e.symm; omega)
  have hg2 := grownBy_setCell' w1 (B + 1 + 1) v'
  refine ⟨(hk h.box hBD).set v', ?_, (hk h.r0 (by omega)).other (by omega) _, (hk h.r1 (by omega)).other (by omega) _, ?_⟩
  · rw [List.map_append, List.map_cons, List.map_nil, linkCells_app, List.length_append]
    refine hr.kept hg2 ?_
    cases e : v'.ownBlock with
    | none => exact .inl rfl
    | some k => exact .inr fun e2 => by have := hv' k e; have := Option.some.inj e2; omega
  · exact ((h.bel.alloc hB o).grown hg (by simp; omega) (fun k hk => by have := hv k hk; omega)).setCell (p := ⟨B + 1 + 1, 0, none⟩) (by show B ≤ B + 1 + 1; omega) v'
/-- between two rounds -/
def IK (B D : Nat) (w : World) (pre : List ByteArray) (W : World) : Prop := (∃ v, RS B D w W v pre) ∧ ∀ s ∈ pre, 0 < s.size
/-- behind the return -/
def IxK (B : Nat) (w : World) (pre : List ByteArray) (W : World) : Prop := Boxed W B 52 (.slice none 0 0) ∧ Boxed W (B + 1) 4 (.bool false) ∧ (∃ s ∈ pre, s.size = 0) ∧ Below B w W
theorem boxed_turn {W W' : World} {row : Option Nat} {B : Nat} {T : TypeId} {v : Value} (h : Boxed W B T v) (hg : W.grownBy W' row) (hr : ∀ r, row = some r → ∃ o : Obj, W.heap[r]? = some o ∧ o.isCells = false) : Boxed W' B T v := h.kept hg (fun e => by
  obtain ⟨o, ho, hc⟩ := hr B e.symm
  rw [show W.heap[B]? = _ from h] at ho
  cases ho; cases hc)
theorem row_turn {W W' : World} {row : Option Nat} {base size n : Nat} {T : TypeId} {v : Value} {xs : List Value} (h : W.ownsRow base T size v n xs) (hg : W.grownBy W' row) (hr : ∀ r, row = some r → ∃ o : Obj, W.heap[r]? = some o ∧ o.isCells = false) : W'.ownsRow base T size v n xs := by
  refine h.kept hg ?_
  rcases h.2 with ⟨rfl, _⟩ | ⟨g, cap, cur, rfl, _, hgb, _⟩
  · exact .inl rfl
  · refine .inr fun e => ?_
    obtain ⟨o, ho, hc⟩ := hr g (by simpa [Value.ownBlock] using e.symm)
    rw [hgb] at ho; cases ho; cases hc
/-- the results are stored -/
theorem RS.fin {B D : Nat} {w W : World} {v x y : Value} {pre : List ByteArray} (h : RS B D w W v pre) (hBD : B + 1 + 1 < D) :
    Boxed ((W.setCell ⟨B, 0, none⟩ x).setCell ⟨B + 1, 0, none⟩ y) B 52 x ∧ Boxed ((W.setCell ⟨B, 0, none⟩ x).setCell ⟨B + 1, 0, none⟩ y) (B + 1) 4 y ∧ ((W.setCell ⟨B, 0, none⟩ x).setCell ⟨B + 1, 0, none⟩ y).ownsRow (D + 1 + 1) 114 3 v pre.length (linkCells (pre.map pLink)) ∧ Below B w ((W.setCell ⟨B, 0, none⟩ x).setCell ⟨B + 1, 0, none⟩ y) ∧ ((W.setCell ⟨B, 0, none⟩ x).setCell ⟨B + 1, 0, none⟩ y).heap[D]? = W.heap[D]? := by
  have hv : ∀ k, v.ownBlock = some k → D + 1 + 1 ≤ k := fun k hk => (h.row.lt k hk).1
  have hne : ∀ b, b < D → v.ownBlock = none ∨ v.ownBlock ≠ some b := fun b hb => by
    cases e : v.ownBlock with
    | none => exact .inl rfl
    | some k => exact .inr fun e2 => by have := hv k e; have := Option.some.inj e2; omega
  refine ⟨(Boxed.set x h.r0).other (by omega) _, (h.r1.other (by omega) _).set _, (h.row.kept (grownBy_setCell' W B x) (hne B (by omega))).kept (grownBy_setCell' _ (B + 1) y) (hne (B + 1) (by omega)), (h.bel.setCell (p := ⟨B, 0, none⟩) (Nat.le_refl _) _).setCell (p := ⟨B + 1, 0, none⟩) (by show B ≤ B + 1; omega) _, ?_⟩
  exact (Below.heap_setCell _ _ _ _ (by show D ≠ B + 1; omega)).trans (Below.heap_setCell _ _ _ _ (by show D ≠ B; omega))
theorem boxed_put {W : World} {B D : Nat} {T : TypeId} {v : Value} (h : Boxed W B T v) (hne : B ≠ D) (o : Obj) : (W.putObj D o).cell? ⟨B, 0, none⟩ = some v := Boxed.cell (t := T) ((World.putObj_heap_other hne).trans h)
theorem retFin {t : ByteArray} {w W : World} {L : List LkZ} {b : Bool} {a : Option Addr} {c base D : Nat} {ds : Option (List Deferred)} (h : AnsK t L b) (hr : W.ownsRow base 114 3 (.slice a L.length c) L.length (linkCells L)) (hbase : w.heap.size ≤ base) (hb : Below w.heap.size w W) (hK : W.heap[D]? = some (.deferred ds)) (hD : w.heap.size ≤ D) (o : Obj) :
    RetPK t w (.returned (.tuple #[.slice a L.length c, .bool b])) (W.putObj D o) :=
  ⟨L, b, a, c, h, rfl, owns_mono (row_turn hr (grownBy_putObj' W D o) (fun r e => by cases e; exact ⟨_, hK, rfl⟩)) hbase, hb.grown (grownBy_putObj' W D o) hb.size (fun k e => by cases e; exact hD), h.len⟩
theorem IK.own {B D : Nat} {w : World} (hB : B ≤ w.heap.size) (hBD : B ≤ D) : OwnFrom D (IK B D w) := fun pre W W' row ⟨⟨v, h⟩, hp⟩ hg hr =>
  ⟨⟨v, boxed_turn h.box hg (fun r e => (hr r e).2), row_turn h.row hg (fun r e => (hr r e).2), boxed_turn h.r0 hg (fun r e => (hr r e).2), boxed_turn h.r1 hg (fun r e => (hr r e).2), h.bel.grown hg (Nat.le_trans hB h.bel.size) (fun k e => Nat.le_trans hBD (hr k e).1)⟩, hp⟩
theorem IxK.own {B D : Nat} {w : World} (hB : B ≤ w.heap.size) (hBD : B ≤ D) : OwnFrom D (IxK B w) := fun pre W W' row ⟨h0, h1, hs, hb⟩ hg hr =>
  ⟨boxed_turn h0 hg (fun r e => (hr r e).2), boxed_turn h1 hg (fun r e => (hr r e).2), hs, hb.grown hg (Nat.le_trans hB hb.size) (fun k e => Nat.le_trans hBD (hr k e).1)⟩
theorem IK.set {B D : Nat} {w : World} (hBD : B + 1 + 1 + 1 < D) (pre : List ByteArray) (W : World) (u : Value) (h : IK B D w pre W) : IK B D w pre (W.setCell ⟨B + 1 + 1 + 1, 0, none⟩ u) := by
  obtain ⟨⟨v, h⟩, hp⟩ := h
  exact ⟨⟨v, h.other 0 u (by omega) (fun k hk => by have := (h.row.lt k hk).1; omega)⟩, hp⟩
section
variable {P : Program}
end
theorem wpListIn_appK {F : Fence} {m : Nat} {ops : Array Oper} {rest : List Oper} {o : Oper} {a : Act} {Q : Exit → Act → World → Prop} (hg : o.guard = none) (s x : Operand)
    (ho : o.op = .call { callee := .builtin .append, args := #[s, x], argTypes := #[52, 52] }) {w : World} {base k : Nat} {v : Value} {xs news : List Value} (hs : a.eval s = v) (hown : w.ownsRow base 114 3 v k xs) (hx : a.eval x = .slice (some ⟨w.heap.size, 0, none⟩) 1 1)
    (hn : news.length = 3) (h1 : ∀ u ∈ news, u.oneCell' = true) (h63 : k + 1 ≤ maxLen) (hbytes : (k + 1) * 24 ≤ 140737488355328) (hbase : base ≤ w.heap.size)
    (hK : ∀ v' w', w'.ownsRow base 114 3 v' (k + 1) (xs ++ news) → (w.alloc (.cells news.toArray 114)).grownBy w' v.ownBlock → wpListIn F m Tryz.prog ops Q rest (a.put o.dst v') w') :
    wpListIn F m Tryz.prog ops Q (o :: rest) a (w.alloc (.cells news.toArray 114)) := by
  obtain ⟨i0, hi, hz0, hz1, hz2⟩ := info_parts Tryz.infoLink
  refine wpListIn_append_own _ hg s x _ ho base _ i0 _ 3 24 Tryz.underlying52 hi hz0 hz1 hz2 rfl (by decide) v k xs hs (hown.alloc _) ⟨w.heap.size, 0, none⟩ 1 1 news hx (by omega) ?_ h1 h63 hbytes (by simp; omega) (fun v' w' r1 r2 _ => hK v' w' r1 r2)
  intro j u hu
  have hadd : (⟨w.heap.size, 0, none⟩ : Addr).add j = ⟨w.heap.size, j, none⟩ := by unfold Addr.add; split <;> simp_all
  rw [hadd, World.cell?_alloc_new]
  simpa using hu
theorem kp_set {Bp Bs Bv D : Nat} {W : World} {b : Nat} (o : Nat) (u : Value) (h1 : Bp ≠ b) (h2 : Bs ≠ b) (h3 : Bv ≠ b) (h4 : D ≠ b) (h5 : D + 1 ≠ b) : Kp5 Bp Bs Bv D W (W.setCell ⟨b, o, none⟩ u) :=
  ⟨⟨Below.heap_setCell _ _ _ _ h1, Below.heap_setCell _ _ _ _ h2, Below.heap_setCell _ _ _ _ h3⟩, Below.heap_setCell _ _ _ _ h4, Below.heap_setCell _ _ _ _ h5⟩
/-- the box of a link -/
def BoxK (W : World) (g : Nat) (x y z : Value) : Prop := W.heap[g]? = some (.cells #[x, y, z] 114 (0, 0))
theorem BoxK.new (W : World) (x y z : Value) : BoxK (W.alloc (.cells #[x, y, z] 114)) W.heap.size x y z := World.alloc_heap_new W _
theorem boxK_later {W W' : World} {g : Nat} {x y z : Value} (h : BoxK W g x y z) (hb : Below W.heap.size W W') : BoxK W' g x y z := (hb.block g (Array.getElem?_eq_some_iff.1 h).1).trans h
theorem BoxK.cells {W : World} {g : Nat} {x y z : Value} (h : BoxK W g x y z) : W.cell? ⟨g, 0, none⟩ = some x ∧ W.cell? ⟨g, 1, none⟩ = some y ∧ W.cell? ⟨g, 2, none⟩ = some z ∧ ∀ o, W.frozen? ⟨g, o, none⟩ = false := by
  have h' : W.heap[g]? = some (.cells #[x, y, z] 114 (0, 0)) := h
  refine ⟨?_, ?_, ?_, fun o => ?_⟩
  · simp [World.cell?, h']
  · simp [World.cell?, h']
  · simp [World.cell?, h']
  · simp [World.frozen?, h']
theorem BoxK.set0 {W : World} {g : Nat} {x y z : Value} (h : BoxK W g x y z) (v : Value) : BoxK (W.setCell ⟨g, 0, none⟩ v) g v y z := by
  obtain ⟨hlt, hk⟩ := Array.getElem?_eq_some_iff.1 h
  show (W.heap.modify g _)[g]? = _
  rw [Array.getElem?_eq_getElem (by rw [Array.size_modify]; exact hlt), Array.getElem_modify_self, hk]
  rfl
theorem BoxK.set1 {W : World} {g : Nat} {x y z : Value} (h : BoxK W g x y z) (v : Value) : BoxK (W.setCell ⟨g, 1, none⟩ v) g x v z := by
  obtain ⟨hlt, hk⟩ := Array.getElem?_eq_some_iff.1 h
  show (W.heap.modify g _)[g]? = _
  rw [Array.getElem?_eq_getElem (by rw [Array.size_modify]; exact hlt), Array.getElem_modify_self, hk]
  rfl
theorem implParseInt_v (s : ByteArray) (w : World) (hs : s.size ≤ 281474976710656) (ht : TabE w) :
    Calls Tryz.prog 69 #[.string s] w fun e w' => ∃ b, e = .returned (.tuple #[.int .i64 (valN s), .bool b]) ∧ Below w.heap.size w w' := (implParseInt_x s w hs ht).mono fun _ _ h => h.val
theorem cut_size (s : ByteArray) (c : UInt8) : (cutB s c).1.size ≤ s.size ∧ (cutB s c).2.1.size ≤ s.size := by
  have h0 : (⟨#[]⟩ : ByteArray).size = 0 := rfl
  unfold cutB
  split
  · simp only []; omega
  · simp only [ByteArray.size_extract]; omega
attribute [local go_sem] Oper.semAt_some
set_option maxRecDepth 100000 in
set_option maxHeartbeats 4000000 in
theorem implParseLinks_any (t : ByteArray) (w : World) (ht : t.size ≤ 2 ^ 20) (hE : TabE w) :
    Calls Tryz.prog 29 #[.string t] w (RetPK t w) := by
  refine (callsIn_wide (n := 3)).1 ?_
  refine callsIn_of_wp_marks Tryz.func29 rfl trivial ?_ rfl
  simp only [Tryz.ntmps29, List.size_toArray, List.length_cons, List.length_nil, Nat.reduceAdd, Nat.reduceSub, Array.replicate_succ, Array.replicate_zero, List.push_toArray, List.append_toArray, List.nil_append, List.cons_append]
  have HE := Lib.hid hE
  have HT := Lib.hid ht
  clear ht hE
  by_cases hq : (t.toList == [61]) = true
  · have HR : Hid (AnsK t [] true) := Lib.hid (.inl ⟨by rw [Lib.toList_data] at hq; exact Go.WideShapes.bytes_inj (eq_of_beq hq), rfl, rfl⟩)
    gi_wp2
    have hb : Below w.heap.size w ((w.alloc (.cells #[.slice none 0 0] 52)).alloc (.cells #[.bool true] 4)) := ((Below.refl _ w).alloc (Nat.le_refl _) _).alloc (by simp) _
    refine ⟨.tuple #[.slice none 0 0, .bool true], ?_, retK (L := []) HR.out (Bld.nil _ _ hb)⟩
    simp [results, Tryz.results29, go_sem]
  · have hq2 : (t.toList == [61]) = false := Bool.not_eq_true _ ▸ hq
    have HNE : Hid (t ≠ ⟨#[61]⟩) := Lib.hid (fun e => hq (by rw [e, Lib.toList_data]; rfl))
    clear hq
    gi_wp2
    refine ⟨trivial, (callsIn_wide.2 (splitSeq_any t 32 _)).mono ?_⟩
    rintro e w2 ⟨rfl, hw2⟩
    obtain ⟨B, hBe⟩ : ∃ B, w.heap.size = B := ⟨_, rfl⟩
    have HFAC : Hid (w2.heap.size = B + 1 + 1 + 1 + 1 + 1 + 1 ∧ RS B (B + 1 + 1 + 1 + 1 + 1 + 1) w w2 (.slice none 0 0) [] ∧ SeqBox w2 (B + 1 + 1 + 1 + 1) (B + 1 + 1 + 1) (B + 1 + 1 + 1 + 1 + 1) 32 t) := Lib.hid (by
      subst hw2
      subst hBe
      have e1 := Boxed.new w 52 (.slice none 0 0)
      have e2 := Boxed.new (w.alloc (.cells #[.slice none 0 0] 52)) 4 (.bool false)
      have e3 := Boxed.new ((w.alloc (.cells #[.slice none 0 0] 52)).alloc (.cells #[.bool false] 4)) 52 (.slice none 0 0)
      have e4 := Boxed.new (((w.alloc (.cells #[.slice none 0 0] 52)).alloc (.cells #[.bool false] 4)).alloc (.cells #[.slice none 0 0] 52)) 9 (.string t)
      have e5 := Boxed.new ((((w.alloc (.cells #[.slice none 0 0] 52)).alloc (.cells #[.bool false] 4)).alloc (.cells #[.slice none 0 0] 52)).alloc (.cells #[.string t] 9)) 9 (.string ⟨#[32]⟩)
      have e6 := Boxed.new (((((w.alloc (.cells #[.slice none 0 0] 52)).alloc (.cells #[.bool false] 4)).alloc (.cells #[.slice none 0 0] 52)).alloc (.cells #[.string t] 9)).alloc (.cells #[.string ⟨#[32]⟩] 9)) 3 (.int .i64 0)
      simp only [World.size_alloc] at e2 e3 e4 e5 e6
      refine ⟨by simp only [World.size_alloc], ⟨((e3.alloc _).alloc _).alloc _, World.ownsRow_nil _ _ _ _, ((((e1.alloc _).alloc _).alloc _).alloc _).alloc _, (((e2.alloc _).alloc _).alloc _).alloc _, ?_⟩, ⟨e5.alloc _, (e4.alloc _).alloc _, e6⟩⟩
      exact ((((((Below.refl _ w).alloc (Nat.le_refl _) _).alloc (by simp only [World.size_alloc]; omega) _).alloc (by simp only [World.size_alloc]; omega) _).alloc (by simp only [World.size_alloc]; omega) _).alloc (by simp only [World.size_alloc]; omega) _).alloc (by simp only [World.size_alloc]; omega) _)
    clear hw2
    obtain ⟨hsz, hRS, hSB⟩ := HFAC.out
    have HRS := Lib.hid hRS
    have HSB := Lib.hid hSB
    have HSZ := Lib.hid hsz
    have HBE := Lib.hid hBe
    clear hRS hSB HFAC hsz
    rw [hBe]
    obtain ⟨D, hD⟩ : ∃ D, w2.heap.size = D := ⟨_, rfl⟩
    have HD := Lib.hid hD
    have hDB : D = B + 1 + 1 + 1 + 1 + 1 + 1 := by rw [← hD]; exact HSZ.out
    have HDB := Lib.hid hDB
    have HT2 : Hid (t.size ≤ 2 ^ 40) := Lib.hid (by have := HT.out; omega)
    rw [← hDB] at HRS
    clear hD hDB
    gi_wp2
    clear hBe
    refine wpIn_rangeSeq (Bp := B + 1 + 1 + 1 + 1) (Bs := B + 1 + 1 + 1) (Bv := B + 1 + 1 + 1 + 1 + 1) (c := 32) (s0 := t) rfl rfl HT2.out HSB.out (by omega) (by omega) (IK B D w) (IxK B w)
      (by rw [HD.out]; exact IK.own (by have := HBE.out; omega) (by have := HDB.out; omega)) (by rw [HD.out]; exact IxK.own (by have := HBE.out; omega) (by have := HDB.out; omega)) (IK.set (by have := HDB.out; omega)) ⟨⟨_, HRS.out⟩, fun s hs => by cases hs⟩
      (fun x => { tmps := #[.string t, undef, .pointer (some ⟨B, 0, none⟩), .pointer (some ⟨B + 1, 0, none⟩), .pointer (some ⟨B + 1 + 1, 0, none⟩), .string x, undef, undef, undef, undef, .string t, .bool false, .string t, .func (.func 165) #[] #[.pointer (some ⟨B + 1 + 1 + 1 + 1, 0, none⟩), .pointer (some ⟨B + 1 + 1 + 1, 0, none⟩), .pointer (some ⟨B + 1 + 1 + 1 + 1 + 1, 0, none⟩)], .string x, undef, undef, undef, undef, undef, undef, undef, undef, undef, undef, undef, undef, undef, undef, undef, undef, undef, undef, undef, undef, undef, undef, undef, undef, undef, undef, undef, undef, undef, undef, undef, undef, undef, undef], defers := [] }) ?assign ?body ?done ?stop
    case assign =>
      intro l x W K hK
      gi_wp2
      exact hK
    case body =>
      rintro l pre x W ⟨⟨v, hR⟩, hpos⟩ hlt hx40 hpost
      rw [HD.out] at hlt ⊢
      have HRW := Lib.hid hR
      have HPOS := Lib.hid hpos
      have HLT := Lib.hid hlt
      have HDB2 : Hid (B + 1 + 1 + 1 + 1 + 1 < D) := Lib.hid (by have := HDB.out; omega)
      have HTB : Hid (∀ W', Below B w W' → TabE W') := Lib.hid (fun W' h => HE.out.later (by rw [HBE.out]; exact h))
      clear hR hpos hlt
      by_cases h0 : 0 < x.size
      · have hse : (x.toList == []) = false := by
          rw [Lib.toList_data]
          cases e : x.data.toList with
          | nil => have h1 : x.size = x.data.toList.length := Array.length_toList.symm
                   rw [e] at h1
                   have h2 : x.size = 0 := h1
                   omega
          | cons _ _ => rfl
        have h1s : (1 : Int) ≤ (x.size : Int) := by omega
        have H52 := Lib.hid (tail_size hx40)
        obtain ⟨bk, hbk⟩ : ∃ bk, (((x[0]'h0).toNat : Int) == 45) = bk := ⟨_, rfl⟩
        have HPL : Hid (pLink x = (valN (cutB (x.extract 1 x.size) 64).1, valN (cutB (x.extract 1 x.size) 64).2.1, bk)) := Lib.hid (by unfold pLink; rw [← head45_at h0, hbk])
        have HC := Lib.hid (fun W' => cutI_any (x.extract 1 x.size) 64 W' (by have := H52.out; unfold maxLen; omega))
        have HZ := Lib.hid (cut_size (x.extract 1 x.size) 64)
        generalize (cutB (x.extract 1 x.size) 64).1 = ru at *
        generalize (cutB (x.extract 1 x.size) 64).2.1 = pl at *
        generalize (cutB (x.extract 1 x.size) 64).2.2 = fd at *
        have HPI1 := Lib.hid (fun W' h => implParseInt_v ru W' (by have := H52.out; have := HZ.out.1; omega) h)
        have HPI2 := Lib.hid (fun W' h => implParseInt_v pl W' (by have := H52.out; have := HZ.out.2; omega) h)
        generalize valN ru = r1 at *
        generalize valN pl = r2 at *
        gi_wp2
        refine ⟨trivial, (CallsIn.inRound l (callsIn_wide.2 (HC.out _))).mono ?_⟩
        rintro e w3 ⟨rfl, hb3⟩
        have hbB : B ≤ W.heap.size := by have := HLT.out; have := HDB2.out; omega
        have HR3 := Lib.hid (HRW.out.later hb3 hbB)
        have hs3 := hb3.size
        have HL3 : Hid (D + 1 < w3.heap.size) := Lib.hid (by have := HLT.out; omega)
        have HK3 : Hid (Kp5 (B + 1 + 1 + 1 + 1) (B + 1 + 1 + 1) (B + 1 + 1 + 1 + 1 + 1) D W w3) := Lib.hid (Kp5.below hb3 (by have := HLT.out; have := HDB2.out; omega) (by have := HLT.out; have := HDB2.out; omega) (by have := HLT.out; have := HDB2.out; omega) HLT.out)
        clear hb3 hs3 hbB
        obtain ⟨bL, hbL⟩ : ∃ bL, w3.heap.size = bL := ⟨_, rfl⟩
        obtain ⟨wL, hwL⟩ : ∃ wL, w3.alloc (.cells #[.int .i64 0, .int .i64 0, .bool bk] 114) = wL := ⟨_, rfl⟩
        have HBL3 : Hid (D + 1 < bL) := Lib.hid (by rw [← hbL]; exact HL3.out)
        have HVL : Hid (∀ k, v.ownBlock = some k → k ≠ bL) := Lib.hid (fun k hk => by have := (HR3.out.row.lt k hk).2; omega)
        have HXL : Hid (BoxK wL bL (.int .i64 0) (.int .i64 0) (.bool bk)) := Lib.hid (by rw [← hwL, ← hbL]; exact BoxK.new _ _ _ _)
        have hbl : Below w3.heap.size w3 wL := by rw [← hwL]; exact alloc_belowS _ _
        have HRL := Lib.hid (HR3.out.later hbl (by have := HL3.out; have := HDB2.out; omega))
        have HKL : Hid (Kp5 (B + 1 + 1 + 1 + 1) (B + 1 + 1 + 1) (B + 1 + 1 + 1 + 1 + 1) D W wL) := Lib.hid (HK3.out.trans (Kp5.below hbl (by have := HL3.out; have := HDB2.out; omega) (by have := HL3.out; have := HDB2.out; omega) (by have := HL3.out; have := HDB2.out; omega) HL3.out))
        have HLL : Hid (D + 1 < wL.heap.size) := Lib.hid (by have := hbl.size; have := HL3.out; omega)
        clear hbl
        obtain ⟨z0, z1, z2, zf⟩ := HXL.out.cells
        gi_wp2
        clear hwL hbL
        refine ⟨trivial, (CallsIn.inRound l (callsIn_wide.2 (HPI1.out _ (HTB.out _ HRL.out.bel)))).mono ?_⟩
        rintro e w4 ⟨b4, rfl, hb4⟩
        have HX4 := Lib.hid (boxK_later HXL.out hb4)
        have HR4 := Lib.hid (HRL.out.later hb4 (by have := HLL.out; have := HDB2.out; omega))
        have HK4 : Hid (Kp5 (B + 1 + 1 + 1 + 1) (B + 1 + 1 + 1) (B + 1 + 1 + 1 + 1 + 1) D W w4) := Lib.hid (HKL.out.trans (Kp5.below hb4 (by have := HLL.out; have := HDB2.out; omega) (by have := HLL.out; have := HDB2.out; omega) (by have := HLL.out; have := HDB2.out; omega) HLL.out))
        have HL4 : Hid (D + 1 < w4.heap.size) := Lib.hid (by have := hb4.size; have := HLL.out; omega)
        clear hb4 z0 z1 z2 zf
        obtain ⟨z0, z1, z2, zf⟩ := HX4.out.cells
        have HX5 := Lib.hid (HX4.out.set0 (.int .i64 r1))
        have HR5 := Lib.hid (HR4.out.other 0 (.int .i64 r1) (by have := HBL3.out; have := HDB2.out; omega) HVL.out)
        have HK5 : Hid (Kp5 (B + 1 + 1 + 1 + 1) (B + 1 + 1 + 1) (B + 1 + 1 + 1 + 1 + 1) D W (w4.setCell ⟨bL, 0, none⟩ (.int .i64 r1))) := Lib.hid (HK4.out.trans (kp_set 0 _ (by have := HBL3.out; have := HDB2.out; omega) (by have := HBL3.out; have := HDB2.out; omega) (by have := HBL3.out; have := HDB2.out; omega) (by have := HBL3.out; omega) (by have := HBL3.out; omega)))
        have HL5 : Hid (D + 1 < (w4.setCell ⟨bL, 0, none⟩ (.int .i64 r1)).heap.size) := Lib.hid (by have := HL4.out; simpa using this)
        gi_wp2
        refine ⟨trivial, (CallsIn.inRound l (callsIn_wide.2 (HPI2.out _ (HTB.out _ HR5.out.bel)))).mono ?_⟩
        rintro e w6 ⟨b6, rfl, hb6⟩
        have HX6 := Lib.hid (boxK_later HX5.out hb6)
        have HR6 := Lib.hid (HR5.out.later hb6 (by have := HL5.out; have := HDB2.out; omega))
        have HK6 : Hid (Kp5 (B + 1 + 1 + 1 + 1) (B + 1 + 1 + 1) (B + 1 + 1 + 1 + 1 + 1) D W w6) := Lib.hid (HK5.out.trans (Kp5.below hb6 (by have := HL5.out; have := HDB2.out; omega) (by have := HL5.out; have := HDB2.out; omega) (by have := HL5.out; have := HDB2.out; omega) HL5.out))
        have HL6 : Hid (D + 1 < w6.heap.size) := Lib.hid (by have := hb6.size; have := HL5.out; omega)
        clear hb6 z0 z1 z2 zf
        obtain ⟨z0, z1, z2, zf⟩ := HX6.out.cells
        have HX7 := Lib.hid (HX6.out.set1 (.int .i64 r2))
        have HR7 := Lib.hid (HR6.out.other 1 (.int .i64 r2) (by have := HBL3.out; have := HDB2.out; omega) HVL.out)
        have HK7 : Hid (Kp5 (B + 1 + 1 + 1 + 1) (B + 1 + 1 + 1) (B + 1 + 1 + 1 + 1 + 1) D W (w6.setCell ⟨bL, 1, none⟩ (.int .i64 r2))) := Lib.hid (HK6.out.trans (kp_set 1 _ (by have := HBL3.out; have := HDB2.out; omega) (by have := HBL3.out; have := HDB2.out; omega) (by have := HBL3.out; have := HDB2.out; omega) (by have := HBL3.out; omega) (by have := HBL3.out; omega)))
        have HL7 : Hid (D + 1 < (w6.setCell ⟨bL, 1, none⟩ (.int .i64 r2)).heap.size) := Lib.hid (by have := HL6.out; simpa using this)
        obtain ⟨Wa, hWa⟩ : ∃ Wa, w6.setCell ⟨bL, 1, none⟩ (.int .i64 r2) = Wa := ⟨_, rfl⟩
        have HWA := Lib.hid hWa
        rw [hWa] at HX7 HR7 HK7 HL7
        obtain ⟨k0, k1, k2, kf⟩ := HX7.out.cells
        have l0 := Boxed.cell (t := 52) HR7.out.box
        have HPN : Hid (pre.length + 1 ≤ 2 ^ 21) := Lib.hid (by
          obtain ⟨post, he⟩ := hpost
          have h1 := congrArg List.length he
          rw [List.length_append, List.length_cons] at h1
          have h2 := (spT_le t 32 t.size).2
          have h3 : (splitB t 32).length = (spT t 32 t.size).1.length + 1 := by unfold splitB; rw [List.length_append]; rfl
          have h4 := HT.out
          omega)
        have M1 : Hid (pre.length + 1 ≤ maxLen) := Lib.hid (by have := HPN.out; unfold maxLen; omega)
        have M2 : Hid ((pre.length + 1) * 24 ≤ 140737488355328) := Lib.hid (by have := HPN.out; omega)
        have M3 : Hid (∀ u ∈ [Value.int .i64 r1, .int .i64 r2, .bool bk], u.oneCell' = true) := Lib.hid (by simp [Value.oneCell'])
        have M4 : Hid (D + 1 + 1 ≤ Wa.heap.size) := Lib.hid (by have := HL7.out; omega)
        have hform := owns_form HR7.out.row
        gi_wp2_with (gi_at_builtin; refine wpListIn_appK rfl (.tmp 40) (.tmp 42) rfl rfl HR7.out.row rfl rfl M3.out M1.out M2.out M4.out ?_)
        intro v' w8 hown' hgrow
        have HR8 : Hid (RS B D w (w8.setCell ⟨B + 1 + 1, 0, none⟩ v') v' (pre ++ [x])) := Lib.hid (HR7.out.put (by have := HL7.out; have := HDB2.out; omega) (by have := HDB2.out; omega) (by rw [HPL.out]; exact hown') hgrow)
        have HB8 : Hid (Boxed w8 (B + 1 + 1) 52 v) := Lib.hid ((HR7.out.box.alloc _).kept hgrow (fun e => by have := (HR7.out.row.lt _ e.symm).1; have := HDB2.out; omega))
        have HK8 : Hid (Kp5 (B + 1 + 1 + 1 + 1) (B + 1 + 1 + 1) (B + 1 + 1 + 1 + 1 + 1) D W (w8.setCell ⟨B + 1 + 1, 0, none⟩ v')) := Lib.hid (by
          have hd := HDB2.out
          have hl7 := HL7.out
          refine (HK7.out.trans (Kp5.below (alloc_belowS Wa (.cells [Value.int .i64 r1, .int .i64 r2, .bool bk].toArray 114)) (by omega) (by omega) (by omega) (by omega))).trans ((Kp5.grown hgrow (by simp; omega) (by simp; omega) (by simp; omega) (by simp; omega) (fun k hk => by have := (HR7.out.row.lt _ hk).1; omega)).trans (kp_set 0 _ (by omega) (by omega) (by omega) (by omega) (by omega)))
          )
        have HPS : Hid (∀ s ∈ pre ++ [x], 0 < s.size) := Lib.hid (fun s hs => by
          rcases List.mem_append.1 hs with h | h
          · exact HPOS.out s h
          · rw [List.mem_singleton.1 h]; exact h0)
        have y0 := Boxed.cell (t := 52) HB8.out
        have y0f := Boxed.frozen (t := 52) HB8.out
        obtain ⟨g8, c8, rfl⟩ := ownsRow_succ hown'
        clear hown' hgrow
        gi_wp2
        exact ⟨HK8.out, ⟨_, HR8.out⟩, HPS.out⟩
      · have hse : (x.toList == []) = true := by
          rw [Lib.toList_data]
          have h1 : x.size = x.data.toList.length := Array.length_toList.symm
          rw [List.length_eq_zero_iff.1 (show x.data.toList.length = 0 by omega)]
          rfl
        have p0 := Boxed.cell (t := 52) HRW.out.r0
        have p0f := Boxed.frozen (t := 52) HRW.out.r0
        have p1 := Boxed.cell (t := 4) HRW.out.r1
        have p1f := Boxed.frozen (t := 4) HRW.out.r1
        have HF : Hid (Kp5 (B + 1 + 1 + 1 + 1) (B + 1 + 1 + 1) (B + 1 + 1 + 1 + 1 + 1) D W ((W.setCell ⟨B, 0, none⟩ (.slice none 0 0)).setCell ⟨B + 1, 0, none⟩ (.bool false)) ∧ IxK B w (pre ++ [x]) ((W.setCell ⟨B, 0, none⟩ (.slice none 0 0)).setCell ⟨B + 1, 0, none⟩ (.bool false))) := Lib.hid (by
          have hd := HDB2.out
          refine ⟨(kp_set 0 _ (by omega) (by omega) (by omega) (by omega) (by omega)).trans (kp_set 0 _ (by omega) (by omega) (by omega) (by omega) (by omega)), ?_, ?_, ⟨x, by simp, by omega⟩, ?_⟩
          · exact (Boxed.set (.slice none 0 0) HRW.out.r0).other (by omega) _
          · exact (HRW.out.r1.other (by omega) _).set _
          · exact (HRW.out.bel.setCell (p := ⟨B, 0, none⟩) (Nat.le_refl _) _).setCell (p := ⟨B + 1, 0, none⟩) (by show B ≤ B + 1; omega) _)
        gi_wp2
        exact HF.out
    case done =>
      rintro W ⟨⟨v, hR⟩, hpos⟩ hK
      rw [HD.out] at hK ⊢
      have HRW := Lib.hid hR
      have HKD := Lib.hid hK
      have HPOS := Lib.hid hpos
      obtain ⟨aQ, cQ, hvf⟩ := owns_form hR.row
      have HDB2 : Hid (B + 1 + 1 + 1 + 1 + 1 < D) := Lib.hid (by have := HDB.out; omega)
      have HLQ : Hid (((splitB t 32).map pLink).length = (splitB t 32).length) := Lib.hid (List.length_map ..)
      have HPL : Hid ((splitB t 32).length ≤ 2 ^ 21) := Lib.hid (by
        have h2 := (spT_le t 32 t.size).2
        have h3 : (splitB t 32).length = (spT t 32 t.size).1.length + 1 := by unfold splitB; rw [List.length_append]; rfl
        have h4 := HT.out
        omega)
      have HLI : Hid (LinksIn W aQ ((splitB t 32).map pLink)) := Lib.hid (owns_cells (by rw [← hvf]; exact hR.row))
      have HTW : Hid (TabE W) := Lib.hid (HE.out.later (by rw [HBE.out]; exact hR.bel))
      have HAL := Lib.hid (ans_all goodQ HNE.out HLQ.out (pMap_rng _) (fun k hk => by
        rw [nthK_lt (by rw [HLQ.out]; exact hk), List.getElem_map, nthS_lt hk]
        exact pLink_good (hpos _ (List.getElem_mem hk))) (split_pos t 32))
      have HFM := Lib.hid (implFormatLinks_any ((splitB t 32).map pLink) aQ cQ W HLI.out (by rw [HLQ.out]; have := HPL.out; omega) (pMap_rng _) HTW.out.1)
      rw [HLQ.out] at HFM
      have l0 : W.cell? ⟨B + 1 + 1, 0, none⟩ = some (.slice aQ (splitB t 32).length cQ) := by rw [← hvf]; exact Boxed.cell (t := 52) HRW.out.box
      have HRR : Hid (RS B D w W (.slice aQ (splitB t 32).length cQ) (splitB t 32)) := Lib.hid (by rw [← hvf]; exact hR)
      clear hR hpos hK hvf HLI HPOS HRW HPL
      obtain ⟨fs, hfs⟩ : ∃ fs, fmtLinks ((splitB t 32).map pLink) = fs := ⟨_, rfl⟩
      rw [hfs] at HFM HAL
      clear hfs
      have hDne : B ≠ D := by have := HDB2.out; omega
      have hDne1 : B + 1 ≠ D := by have := HDB2.out; omega
      have HNE2 := Lib.hid hDne
      have HNE3 := Lib.hid hDne1
      clear hDne hDne1
      gi_wp2
      refine ⟨trivial, (callsIn_wide.2 HFM.out).mono ?_⟩
      rintro e w3 ⟨rfl, hb3⟩
      have HLW : Hid (D < W.heap.size) := Lib.hid (Array.getElem?_eq_some_iff.1 HKD.out).1
      have HR3 := Lib.hid (HRR.out.later hb3 (by have := HLW.out; have := HDB2.out; omega))
      have HK3 : Hid (w3.heap[D]? = some (.deferred (some []))) := Lib.hid ((hb3.block D HLW.out).trans HKD.out)
      clear hb3 l0
      have p0 := Boxed.cell (t := 52) HR3.out.r0
      have p0f := Boxed.frozen (t := 52) HR3.out.r0
      have p1 := Boxed.cell (t := 4) HR3.out.r1
      have p1f := Boxed.frozen (t := 4) HR3.out.r1
      have l0 := Boxed.cell (t := 52) HR3.out.box
      have HBD : Hid (B + 1 + 1 < D) := Lib.hid (by have := HDB2.out; omega)
      cases hqq : (fs.toList == t.toList)
      · have HX := Lib.hid (HAL.out.2 (fun e => by rw [e] at hqq; simp at hqq))
        have HFN := Lib.hid (HR3.out.fin (x := .slice none 0 0) (y := .bool false) HBD.out)
        gi_wp2
        refine ⟨by simp, .inl ⟨_, _, rfl, run_takeDeferred (HFN.out.2.2.2.2.trans HK3.out), ?_⟩⟩
        have q0 := boxed_put HFN.out.1 HNE2.out (.deferred none)
        have q1 := boxed_put HFN.out.2.1 HNE3.out (.deferred none)
        refine ⟨.tuple #[.slice none 0 0, .bool false], ?_, retFin (L := []) HX.out (World.ownsRow_nil _ _ _ _) (Nat.le_refl _) (by rw [HBE.out]; exact HFN.out.2.2.2.1) (HFN.out.2.2.2.2.trans HK3.out) (by rw [HBE.out]; have := HBD.out; omega) _⟩
        simp [results, Tryz.results29, go_sem, q0, q1]
      · have HX := Lib.hid (HAL.out.1 (by
          have h := eq_of_beq hqq
          rw [Lib.toList_data, Lib.toList_data] at h
          exact Go.WideShapes.bytes_inj h))
        have HFN := Lib.hid (HR3.out.fin (x := .slice aQ (splitB t 32).length cQ) (y := .bool true) HBD.out)
        gi_wp2
        refine ⟨by simp, .inl ⟨_, _, rfl, run_takeDeferred (HFN.out.2.2.2.2.trans HK3.out), ?_⟩⟩
        have q0 := boxed_put HFN.out.1 HNE2.out (.deferred none)
        have q1 := boxed_put HFN.out.2.1 HNE3.out (.deferred none)
        refine ⟨.tuple #[.slice aQ (splitB t 32).length cQ, .bool true], ?_, ?_⟩
        · simp [results, Tryz.results29, go_sem, q0, q1]
        · have h := retFin (a := aQ) (c := cQ) (base := D + 1 + 1) HX.out (by rw [HLQ.out]; exact HFN.out.2.2.1) (by rw [HBE.out]; have := HBD.out; omega) (by rw [HBE.out]; exact HFN.out.2.2.2.1) (HFN.out.2.2.2.2.trans HK3.out) (by rw [HBE.out]; have := HBD.out; omega) (.deferred none)
          rw [HLQ.out] at h
          exact h
    case stop =>
      rintro pre W ⟨post, hpost⟩ ⟨h0, h1, ⟨s, hs, hz⟩, hbel⟩ hK
      rw [HD.out] at hK ⊢
      have HX : Hid (AnsK t [] false) := Lib.hid (by
        obtain ⟨k, hk, e⟩ := List.getElem_of_mem hs
        have hkl : k < (splitB t 32).length := by rw [hpost, List.length_append]; omega
        refine .inr (.inr ⟨HNE.out, no_part hkl (fun x _ e2 => ?_), rfl, rfl⟩)
        rw [nthS_lt hkl] at e2
        have e3 : (splitB t 32)[k] = s := by
          rw [← e]
          have h5 : (splitB t 32)[k]? = pre[k]? := by rw [hpost, List.getElem?_append_left hk]
          rw [List.getElem?_eq_getElem hkl, List.getElem?_eq_getElem hk] at h5
          exact Option.some.inj h5
        rw [e3] at e2
        have := linkB_pos x
        rw [← e2] at this
        omega)
      have HK := Lib.hid hK
      have HB0 := Lib.hid h0
      have HB1 := Lib.hid h1
      have HBEL := Lib.hid hbel
      have HDB2 : Hid (B + 1 + 1 < D) := Lib.hid (by have := HDB.out; omega)
      clear h0 h1 hs hz hbel hK hpost
      gi_wp2
      refine ⟨by simp, .inl ⟨_, _, rfl, run_takeDeferred HK.out, ?_⟩⟩
      have q0 := boxed_put HB0.out (D := D) (by have := HDB2.out; omega) (.deferred none)
      have q1 := boxed_put HB1.out (D := D) (by have := HDB2.out; omega) (.deferred none)
      refine ⟨.tuple #[.slice none 0 0, .bool false], ?_, retFin (L := []) HX.out (World.ownsRow_nil _ _ _ _) (Nat.le_refl _) (by rw [HBE.out]; exact HBEL.out) HK.out (by rw [HBE.out]; have := HDB2.out; omega) _⟩
      simp [results, Tryz.results29, go_sem, q0, q1]
end Go.Proofs.YtoddpmdjjgnpgaaGreatDoor
