/-
  CountBack, words (laws), SameSystem at what is the same.
-/
import Derived.Test.YtoddpmdjjgnpgaaGreatDoorTxt25
import Derived.Test.YtoddpmdjjgnpgaaGreatDoorTxt13
import Derived.Test.YtoddpmdjjgnpgaaGreatDoorTxt20
import Derived.Test.YtoddpmdjjgnpgaaGreatDoorTxt10
import Derived.Test.YtoddpmdjjgnpgaaGreatDoorTxt03
import Derived.Test.YtoddpmdjjgnpgaaGreatDoorTxt08
import Derived.Test.YtoddpmdjjgnpgaaGreatDoorTxt04
import Derived.Deep.QuietTactic
import Derived.BigQuiet
import Derived.Deep.Cut
namespace Go.Proofs.YtoddpmdjjgnpgaaGreatDoor
open Go.RowKit Go.Shelf
set_option linter.unusedVariables false
def ordCell (x : OrdD) : List Value := [.string x.1, .string x.2.1, .bool x.2.2]
theorem ordCells_app : ∀ (Q : List OrdD) (x : OrdD), ordCells (Q ++ [x]) = ordCells Q ++ ordCell x
  | [], _ => rfl
  | p :: Q, x => by simp only [List.cons_append, ordCells, ordCells_app Q x]
/-- where the mark stands -/
def atO (s : ByteArray) : Nat := (Lib.indexAny s.data.toList [62, 33]).toNat
def flagO (s : ByteArray) : Bool := s.data.toList.getD (atO s) 0 == 33
/-- the order of a part -/
def pOrd (s : ByteArray) : OrdD := (undot (s.extract 0 (atO s)), undot (s.extract (atO s + 1) s.size), flagO s)
/-- a part with a mark -/
def GoodO (s : ByteArray) : Prop := (Lib.indexAny s.data.toList [62, 33] = (atO s : Int) ∧ atO s < s.size) ∧ s.size ≤ 8 ∧ ∀ b ∈ s.data.toList, b.toNat < 128
def dblP : List ByteArray := dblL.map ordB
instance : DecidablePred GoodO := fun s => by unfold GoodO; infer_instance
theorem dblP_good : ∀ s ∈ dblP, GoodO s := by decide +kernel
theorem dblP_map : dblP.map pOrd = dblL := by decide +kernel
theorem dblP_len : dblP.length = 3 := rfl
theorem dbl_split : splitB (ordsT dblL) 32 = dblP := by
  have e : ordsT dblL = joinF dblP ⟨#[32]⟩ := rfl
  rw [e]
  exact split_join (by decide) (by decide +kernel)
theorem dbl_ne : ((ordsT dblL).toList == [45]) = false := by rw [Lib.toList_data]; decide +kernel
theorem dbl_size : (ordsT dblL).size ≤ 100 := by decide +kernel
theorem flag_at {s : ByteArray} {i : Nat} (hi : i < s.size) (h : i = atO s) : (((s[i]'hi).toNat : Int) == 33) = flagO s := by
  subst h
  unfold flagO
  have e : s.data.toList.getD (atO s) 0 = s[atO s]'hi := by
    rw [List.getD_eq_getElem?_getD, List.getElem?_eq_getElem (by simpa using hi)]
    rfl
  rw [e]
  generalize s[atO s]'hi = c
  have : (c == 33) = decide (c.toNat = 33) := by
    rw [Bool.eq_iff_iff]
    simp [← UInt8.toNat_inj]
  rw [this, Bool.eq_iff_iff]
  simp
  omega
/-- the boxes of the results and of the list, the list's row; B: the first of the boxes; D: the loop's first block -/
structure RO (B D : Nat) (w W : World) (v : Value) (pre : List ByteArray) : Prop where
  box : Boxed W (B + 1 + 1) 67 v
  row : W.ownsRow (D + 1 + 1) 76 3 v pre.length (ordCells (pre.map pOrd))
  r0 : Boxed W B 67 (.slice none 0 0)
  r1 : Boxed W (B + 1) 4 (.bool false)
  bel : Below B w W
theorem RO.later {B D : Nat} {w W W' : World} {v : Value} {pre : List ByteArray} (h : RO B D w W v pre) (hb : Below W.heap.size W W') (hB : B ≤ W.heap.size) : RO B D w W' v pre :=
  ⟨boxed_later h.box hb, owns_later h.row hb, boxed_later h.r0 hb, boxed_later h.r1 hb, h.bel.trans (hb.mono hB)⟩
/-- a store into a block of the round's own -/
theorem RO.other {B D : Nat} {w W : World} {v : Value} {pre : List ByteArray} (h : RO B D w W v pre) {b : Nat} (o : Nat) (u : Value) (hb : B + 1 + 1 < b) (hrow : ∀ k, v.ownBlock = some k → k ≠ b) : RO B D w (W.setCell ⟨b, o, none⟩ u) v pre := by
  have hg := setGrownB W b o u
  refine ⟨h.box.kept hg (fun e => by have := Option.some.inj e; omega), h.row.kept hg ?_, h.r0.kept hg (fun e => by have := Option.some.inj e; omega), h.r1.kept hg (fun e => by have := Option.some.inj e; omega), h.bel.setCell (p := ⟨b, o, none⟩) (by show B ≤ b; omega) u⟩
  cases e : v.ownBlock with
  | none => exact .inl rfl
  | some k => exact .inr fun e2 => hrow k e (Option.some.inj e2)
/-- 'list = append(list, x)' -/
theorem RO.put {B D : Nat} {w W w1 : World} {v v' : Value} {pre : List ByteArray} {x : ByteArray} {o : Obj} (h : RO B D w W v pre) (hB : B ≤ W.heap.size) (hBD : B + 1 + 1 < D) (hr : w1.ownsRow (D + 1 + 1) 76 3 v' (pre.length + 1) (ordCells (pre.map pOrd) ++ ordCell (pOrd x))) (hg : (W.alloc o).grownBy w1 v.ownBlock) :
    RO B D w (w1.setCell ⟨B + 1 + 1, 0, none⟩ v') v' (pre ++ [x]) := by
  have hv : ∀ k, v.ownBlock = some k → D + 1 + 1 ≤ k := fun k hk => (h.row.lt k hk).1
  have hv' : ∀ k, v'.ownBlock = some k → D + 1 + 1 ≤ k := fun k hk => (hr.lt k hk).1
  have hk : ∀ {b T u}, Boxed W b T u → b < D → Boxed w1 b T u := fun {b T u} hb hlt => (hb.alloc o).kept hg (fun e => by have := hv _ e.symm; omega)
  have hg2 := grownBy_setCell' w1 (B + 1 + 1) v'
  refine ⟨(hk h.box hBD).set v', ?_, (hk h.r0 (by omega)).other (by omega) _, (hk h.r1 (by omega)).other (by omega) _, ?_⟩
  · rw [List.map_append, List.map_cons, List.map_nil, ordCells_app, List.length_append]
    refine hr.kept hg2 ?_
    cases e : v'.ownBlock with
    | none => exact .inl rfl
    | some k => exact .inr fun e2 => by have := hv' k e; have := Option.some.inj e2; omega
  · exact ((h.bel.alloc hB o).grown hg (by simp; omega) (fun k hk => by have := hv k hk; omega)).setCell (p := ⟨B + 1 + 1, 0, none⟩) (by show B ≤ B + 1 + 1; omega) v'
/-- the results are stored -/
theorem RO.fin {B D : Nat} {w W : World} {v x y : Value} {pre : List ByteArray} (h : RO B D w W v pre) (hBD : B + 1 + 1 < D) :
    Boxed ((W.setCell ⟨B, 0, none⟩ x).setCell ⟨B + 1, 0, none⟩ y) B 67 x ∧ Boxed ((W.setCell ⟨B, 0, none⟩ x).setCell ⟨B + 1, 0, none⟩ y) (B + 1) 4 y ∧ ((W.setCell ⟨B, 0, none⟩ x).setCell ⟨B + 1, 0, none⟩ y).ownsRow (D + 1 + 1) 76 3 v pre.length (ordCells (pre.map pOrd)) ∧ Below B w ((W.setCell ⟨B, 0, none⟩ x).setCell ⟨B + 1, 0, none⟩ y) ∧ ((W.setCell ⟨B, 0, none⟩ x).setCell ⟨B + 1, 0, none⟩ y).heap[D]? = W.heap[D]? := by
  have hv : ∀ k, v.ownBlock = some k → D + 1 + 1 ≤ k := fun k hk => (h.row.lt k hk).1
  have hne : ∀ b, b < D → v.ownBlock = none ∨ v.ownBlock ≠ some b := fun b hb => by
    cases e : v.ownBlock with
    | none => exact .inl rfl
    | some k => exact .inr fun e2 => by have := hv k e; have := Option.some.inj e2; omega
  refine ⟨(Boxed.set x h.r0).other (by omega) _, (h.r1.other (by omega) _).set _, (h.row.kept (grownBy_setCell' W B x) (hne B (by omega))).kept (grownBy_setCell' _ (B + 1) y) (hne (B + 1) (by omega)), (h.bel.setCell (p := ⟨B, 0, none⟩) (Nat.le_refl _) _).setCell (p := ⟨B + 1, 0, none⟩) (by show B ≤ B + 1; omega) _, ?_⟩
  exact (Below.heap_setCell _ _ _ _ (by show D ≠ B + 1; omega)).trans (Below.heap_setCell _ _ _ _ (by show D ≠ B; omega))
theorem RO.putB {B D : Nat} {w W w1 : World} {v v' : Value} {pre : List ByteArray} {x : ByteArray} (h : RO B D w W v pre) (hB : B ≤ W.heap.size) (hBD : B + 1 + 1 < D) (hr : w1.ownsRow (D + 1 + 1) 76 3 v' (pre.length + 1) (ordCells (pre.map pOrd) ++ ordCell (pOrd x))) (hg : W.grownBy w1 v.ownBlock) :
    RO B D w (w1.setCell ⟨B + 1 + 1, 0, none⟩ v') v' (pre ++ [x]) := by
  have hv : ∀ k, v.ownBlock = some k → D + 1 + 1 ≤ k := fun k hk => (h.row.lt k hk).1
  have hv' : ∀ k, v'.ownBlock = some k → D + 1 + 1 ≤ k := fun k hk => (hr.lt k hk).1
  have hk : ∀ {b T u}, Boxed W b T u → b < D → Boxed w1 b T u := fun {b T u} hb hlt => hb.kept hg (fun e => by have := hv _ e.symm; omega)
  have hg2 := grownBy_setCell' w1 (B + 1 + 1) v'
  refine ⟨(hk h.box hBD).set v', ?_, (hk h.r0 (by omega)).other (by omega) _, (hk h.r1 (by omega)).other (by omega) _, ?_⟩
  · rw [List.map_append, List.map_cons, List.map_nil, ordCells_app, List.length_append]
    refine hr.kept hg2 ?_
    cases e : v'.ownBlock with
    | none => exact .inl rfl
    | some k => exact .inr fun e2 => by have := hv' k e; have := Option.some.inj e2; omega
  · exact (h.bel.grown hg (by omega) (fun k hk => by have := hv k hk; omega)).setCell (p := ⟨B + 1 + 1, 0, none⟩) (by show B ≤ B + 1 + 1; omega) v'
/-- between two rounds -/
def IO (B D : Nat) (w : World) (pre : List ByteArray) (W : World) : Prop := ∃ v, RO B D w W v pre
theorem IO.own {B D : Nat} {w : World} (hB : B ≤ w.heap.size) (hBD : B ≤ D) : OwnFrom D (IO B D w) := fun pre W W' row ⟨v, h⟩ hg hr =>
  ⟨v, boxed_turn h.box hg (fun r e => (hr r e).2), row_turn h.row hg (fun r e => (hr r e).2), boxed_turn h.r0 hg (fun r e => (hr r e).2), boxed_turn h.r1 hg (fun r e => (hr r e).2), h.bel.grown hg (Nat.le_trans hB h.bel.size) (fun k e => Nat.le_trans hBD (hr k e).1)⟩
def IxO (pre : List ByteArray) (W : World) : Prop := False
theorem IxO.own (D : Nat) : OwnFrom D IxO := fun pre W W' row h hg hr => h
theorem IO.set {B D : Nat} {w : World} (hBD : B + 1 + 1 + 1 < D) (pre : List ByteArray) (W : World) (u : Value) (h : IO B D w pre W) : IO B D w pre (W.setCell ⟨B + 1 + 1 + 1, 0, none⟩ u) := by
  obtain ⟨v, h⟩ := h
  exact ⟨v, h.other 0 u (by omega) (fun k hk => by have := (h.row.lt k hk).1; omega)⟩
/-- what ParseOrders hands back -/
def RetPO (w : World) (e : Ending) (w' : World) : Prop := ∃ a c, e = .returned (.tuple #[.slice a 3 c, .bool true]) ∧ OrdsIn w' a dblL ∧ Below w.heap.size w w'
theorem retFinO {w W : World} {a : Option Addr} {c base D : Nat} {ds : Option (List Deferred)} (hr : W.ownsRow base 76 3 (.slice a 3 c) 3 (ordCells dblL)) (hb : Below w.heap.size w W) (hK : W.heap[D]? = some (.deferred ds)) (hD : w.heap.size ≤ D) (o : Obj) :
    RetPO w (.returned (.tuple #[.slice a 3 c, .bool true])) (W.putObj D o) :=
  ⟨a, c, rfl, owns_ords (row_turn hr (grownBy_putObj' W D o) (fun r e => by cases e; exact ⟨_, hK, rfl⟩)), hb.grown (grownBy_putObj' W D o) hb.size (fun k e => by cases e; exact hD)⟩
attribute [local go_sem] Oper.semAt_some
set_option maxRecDepth 100000 in
set_option maxHeartbeats 4000000 in
theorem implParseOrders_x (w : World) (ht : Tab10 w) :
    Calls Tryz.prog 31 #[.string (ordsT dblL)] w (RetPO w) := by
  refine (callsIn_wide (n := 3)).1 ?_
  refine callsIn_of_wp_marks Tryz.func31 rfl trivial ?_ rfl
  simp only [Tryz.ntmps31, List.size_toArray, List.length_cons, List.length_nil, Nat.reduceAdd, Nat.reduceSub, Array.replicate_succ, Array.replicate_zero, List.push_toArray, List.append_toArray, List.nil_append, List.cons_append]
  have hq2 := dbl_ne
  have HTS : Hid ((ordsT dblL).size ≤ 2 ^ 40) := Lib.hid (Nat.le_trans dbl_size (by decide))
  have HSP := Lib.hid dbl_split
  have HTT : Hid (ordsT dblL = ordsT dblL) := Lib.hid rfl
  obtain ⟨t, htt⟩ : ∃ t, ordsT dblL = t := ⟨_, rfl⟩
  have HTE := Lib.hid htt
  rw [htt] at hq2 HTS HSP ⊢
  clear HTT htt
  gi_wp2
  refine ⟨trivial, (callsIn_wide.2 (splitSeq_any t 32 _)).mono ?_⟩
  rintro e w2 ⟨rfl, hw2⟩
  obtain ⟨B, hBe⟩ : ∃ B, w.heap.size = B := ⟨_, rfl⟩
  have HFAC : Hid (w2.heap.size = B + 1 + 1 + 1 + 1 + 1 + 1 ∧ RO B (B + 1 + 1 + 1 + 1 + 1 + 1) w w2 (.slice none 0 0) [] ∧ SeqBox w2 (B + 1 + 1 + 1 + 1) (B + 1 + 1 + 1) (B + 1 + 1 + 1 + 1 + 1) 32 t) := Lib.hid (by
    subst hw2
    subst hBe
    have e1 := Boxed.new w 67 (.slice none 0 0)
    have e2 := Boxed.new (w.alloc (.cells #[.slice none 0 0] 67)) 4 (.bool false)
    have e3 := Boxed.new ((w.alloc (.cells #[.slice none 0 0] 67)).alloc (.cells #[.bool false] 4)) 67 (.slice none 0 0)
    have e4 := Boxed.new (((w.alloc (.cells #[.slice none 0 0] 67)).alloc (.cells #[.bool false] 4)).alloc (.cells #[.slice none 0 0] 67)) 9 (.string t)
    have e5 := Boxed.new ((((w.alloc (.cells #[.slice none 0 0] 67)).alloc (.cells #[.bool false] 4)).alloc (.cells #[.slice none 0 0] 67)).alloc (.cells #[.string t] 9)) 9 (.string ⟨#[32]⟩)
    have e6 := Boxed.new (((((w.alloc (.cells #[.slice none 0 0] 67)).alloc (.cells #[.bool false] 4)).alloc (.cells #[.slice none 0 0] 67)).alloc (.cells #[.string t] 9)).alloc (.cells #[.string ⟨#[32]⟩] 9)) 3 (.int .i64 0)
    simp only [World.size_alloc] at e2 e3 e4 e5 e6
    refine ⟨by simp only [World.size_alloc], ⟨((e3.alloc _).alloc _).alloc _, World.ownsRow_nil _ _ _ _, ((((e1.alloc _).alloc _).alloc _).alloc _).alloc _, (((e2.alloc _).alloc _).alloc _).alloc _, ?_⟩, ⟨e5.alloc _, (e4.alloc _).alloc _, e6⟩⟩
    exact ((((((Below.refl _ w).alloc (Nat.le_refl _) _).alloc (by simp only [World.size_alloc]; omega) _).alloc (by simp only [World.size_alloc]; omega) _).alloc (by simp only [World.size_alloc]; omega) _).alloc (by simp only [World.size_alloc]; omega) _).alloc (by simp only [World.size_alloc]; omega) _)
  clear hw2
  obtain ⟨hsz, hRS, hSB⟩ := HFAC.out
  have HRS := Lib.hid hRS
  have HSB := Lib.hid hSB
  have HSZ := Lib.hid hsz
  have HBE := Lib.hid hBe
  have HE := Lib.hid ht
  clear hRS hSB HFAC hsz ht
  rw [hBe]
  obtain ⟨D, hD⟩ : ∃ D, w2.heap.size = D := ⟨_, rfl⟩
  have HD := Lib.hid hD
  have hDB : D = B + 1 + 1 + 1 + 1 + 1 + 1 := by rw [← hD]; exact HSZ.out
  have HDB := Lib.hid hDB
  rw [← hDB] at HRS
  clear hD hDB
  gi_wp2
  clear hBe
  refine wpIn_rangeSeq (Bp := B + 1 + 1 + 1 + 1) (Bs := B + 1 + 1 + 1) (Bv := B + 1 + 1 + 1 + 1 + 1) (c := 32) (s0 := t) rfl rfl HTS.out HSB.out (by omega) (by omega) (IO B D w) IxO
    (by rw [HD.out]; exact IO.own (by have := HBE.out; omega) (by have := HDB.out; omega)) (IxO.own _) (IO.set (by have := HDB.out; omega)) ⟨_, HRS.out⟩
    (fun x => { tmps := #[.string t, undef, .pointer (some ⟨B, 0, none⟩), .pointer (some ⟨B + 1, 0, none⟩), .pointer (some ⟨B + 1 + 1, 0, none⟩), .string x, undef, .string t, .bool false, .string t, .func (.func 165) #[] #[.pointer (some ⟨B + 1 + 1 + 1 + 1, 0, none⟩), .pointer (some ⟨B + 1 + 1 + 1, 0, none⟩), .pointer (some ⟨B + 1 + 1 + 1 + 1 + 1, 0, none⟩)], .string x, undef, undef, undef, undef, undef, undef, undef, undef, undef, undef, undef, undef, undef, undef, undef, undef, undef, undef, undef, undef, undef, undef, undef, undef, undef, undef, undef, undef, undef, undef, undef, undef, undef, undef, undef, undef], defers := [] }) ?assi ?body ?done ?stop
  case assi =>
    intro l x W K hK
    gi_wp2
    exact hK
  case body =>
    rintro l pre x W ⟨v, hR⟩ hlt hx40 hpost
    rw [HD.out] at hlt ⊢
    rw [HSP.out] at hpost
    have HRW := Lib.hid hR
    have HLT := Lib.hid hlt
    have HDB2 : Hid (B + 1 + 1 + 1 + 1 + 1 < D) := Lib.hid (by have := HDB.out; omega)
    have hGO : GoodO x := by
      obtain ⟨post, he⟩ := hpost
      exact dblP_good x (by rw [he]; simp)
    have hpl : pre.length ≤ 2 := by
      obtain ⟨post, he⟩ := hpost
      have h1 := congrArg List.length he
      rw [List.length_append, List.length_cons, dblP_len] at h1
      omega
    obtain ⟨⟨hix, hil⟩, hx8, hxa⟩ := hGO
    have HIX : Hid (∀ W', Calls Tryz.prog 81 #[.string x, .string ⟨#[62, 33]⟩] W' fun e w' => e = .returned (.int .i64 (atO x : Nat)) ∧ Below W'.heap.size W' w') := Lib.hid (fun W' => by
      refine (Tryz.strings_IndexAny_laid x ⟨#[62, 33]⟩ W' (by omega) (by decide) (fun j b hb => hxa b (List.mem_of_getElem? hb)) (fun j b hb => by
        have : b ∈ ([62, 33] : List UInt8) := List.mem_of_getElem? hb
        simp only [List.mem_cons, List.not_mem_nil, or_false] at this
        rcases this with rfl | rfl <;> decide)).mono ?_
      rintro e w' ⟨rfl, hb⟩
      exact ⟨by rw [← hix], hb⟩)
    have HFL := Lib.hid (fun (hi : atO x < x.size) => flag_at hi rfl)
    have HPO : Hid (pOrd x = (undot (x.extract 0 (atO x)), undot (x.extract (atO x + 1) x.size), flagO x)) := Lib.hid rfl
    have HU1 := Lib.hid (fun W' => undotted_any (x.extract 0 (atO x)) W')
    have HU2 := Lib.hid (fun W' => undotted_any (x.extract (atO x + 1) x.size) W')
    clear hR hlt hix hxa hpost
    generalize undot (x.extract 0 (atO x)) = ux at *
    generalize undot (x.extract (atO x + 1) x.size) = uy at *
    generalize flagO x = ub at *
    generalize atO x = i at *
    gi_wp2
    refine ⟨trivial, (CallsIn.inRound l (callsIn_wide.2 (HIX.out _))).mono ?_⟩
    rintro e w3 ⟨rfl, hb3⟩
    have hbB : B ≤ W.heap.size := by have := HLT.out; have := HDB2.out; omega
    have HR3 := Lib.hid (HRW.out.later hb3 hbB)
    have hs3 := hb3.size
    have HL3 : Hid (D + 1 < w3.heap.size) := Lib.hid (by have := HLT.out; omega)
    have HK3 : Hid (Kp5 (B + 1 + 1 + 1 + 1) (B + 1 + 1 + 1) (B + 1 + 1 + 1 + 1 + 1) D W w3) := Lib.hid (Kp5.below hb3 (by have := HLT.out; have := HDB2.out; omega) (by have := HLT.out; have := HDB2.out; omega) (by have := HLT.out; have := HDB2.out; omega) HLT.out)
    obtain ⟨aQ, cQ, hvf⟩ := owns_form HR3.out.row
    subst hvf
    have L3 : Hid (w3.cell? ⟨B + 1 + 1, 0, none⟩ = some (.slice aQ pre.length cQ)) := Lib.hid (Boxed.cell (t := 67) HR3.out.box)
    have l0 := L3.out
    have hi0 : ¬ (i : Int) < 0 := by omega
    have hp12 : ((pre.length : Int) == 12) = false := by rw [beq_eq_false_iff_ne]; omega
    have s1 : (i : Int) ≤ (x.size : Int) := by omega
    have s2 : i ≤ x.size := by omega
    have s3 : (i : Int) + 1 ≤ (x.size : Int) := by omega
    have s4 : i + 1 ≤ x.size := by omega
    have s5 : (i : Int) < (x.size : Int) := by omega
    have s0 : IntKind.i64.wrap ((i : Int) + 1) = (i : Int) + 1 := IntWalk.i64_in _ (by omega)
    have s6 : (0 : Int) ≤ (i : Int) + 1 := by omega
    have s7 : ((i : Int) + 1).toNat = i + 1 := by omega
    have hfl := HFL.out hil
    clear hb3 hs3 hbB HRW HIX
    gi_wp2
    refine region_tailIn 16 (fun W => Below w3.heap.size w3 W) (fun W W2 => Below W.heap.size W W2) (by rintro ⟨_, _, h⟩; exact h) (fun u => by simp only [List.take_succ_cons, List.take_zero, fPut, Act.put, List.setIfInBounds_toArray, List.set_cons_succ, List.set_cons_zero, Nat.zero_add, Nat.reduceAdd]; rfl) (by kernel_rfl) (by kernel_rfl) (by kernel_rfl) (by kernel_rfl) (by kernel_rfl) (by kernel_rfl) (by kernel_rfl) (by kernel_rfl) (Below.drew (Below.refl _ _)) ?_
    conv => arg 7; simp only [List.take_succ_cons, List.take_zero]
    apply each_read (fun _ => Below.refl _ _) rfl
    · intro u wv hC hf
      have l0 := (hC.cell (World.block_lt_of_cell? w3 _ L3.out)).trans L3.out
      clear hf
      go_simp
      try rfl
    apply each_read (fun _ => Below.refl _ _) rfl
    · intro u wv hC hf
      have l0 := (hC.cell (World.block_lt_of_cell? w3 _ L3.out)).trans L3.out
      clear hf
      go_simp
      try rfl
    conv => arg 8; simp only [List.cons_append, List.nil_append]
    apply each_read (fun _ => Below.refl _ _) rfl
    · intro u wv hC hf
      have l0 := (hC.cell (World.block_lt_of_cell? w3 _ L3.out)).trans L3.out
      clear hf
      go_simp
      try rfl
    conv => arg 8; simp only [List.cons_append, List.nil_append]
    apply each_read (fun _ => Below.refl _ _) rfl
    · intro u wv hC hf
      have l0 := (hC.cell (World.block_lt_of_cell? w3 _ L3.out)).trans L3.out
      obtain ⟨d1_0, d2_1, -⟩ := hf
      have e1 : u 1 = _ := d1_0 rfl
      clear d1_0
      have e2 : u 2 = _ := d2_1 rfl
      clear d2_1
      go_simp
      try rfl
    conv => arg 8; simp only [List.cons_append, List.nil_append]
    apply each_callR rfl
    · intro u wv hC hf
      have l0 := (hC.cell (World.block_lt_of_cell? w3 _ L3.out)).trans L3.out
      obtain ⟨d3_0, -⟩ := hf
      have e3 : u 3 = _ := d3_0 rfl
      clear d3_0
      apply Exists.intro; apply Exists.intro; apply And.intro
      · go_simp; exact ⟨rfl, rfl⟩
      · refine (HU1.out _).mono ?_
        rintro e w9 ⟨rfl, rfl⟩
        exact ⟨rfl, hC, Below.refl _ _⟩
    conv => arg 8; simp only [List.cons_append, List.nil_append]
    apply each_read (fun _ => Below.refl _ _) rfl
    · intro u wv hC hf
      have l0 := (hC.cell (World.block_lt_of_cell? w3 _ L3.out)).trans L3.out
      clear hf
      go_simp
      try rfl
    conv => arg 8; simp only [List.cons_append, List.nil_append]
    apply each_read (fun _ => Below.refl _ _) rfl
    · intro u wv hC hf
      have l0 := (hC.cell (World.block_lt_of_cell? w3 _ L3.out)).trans L3.out
      clear hf
      go_simp
      try rfl
    conv => arg 8; simp only [List.cons_append, List.nil_append]
    apply each_read (fun _ => Below.refl _ _) rfl
    · intro u wv hC hf
      have l0 := (hC.cell (World.block_lt_of_cell? w3 _ L3.out)).trans L3.out
      obtain ⟨d6_0, -⟩ := hf
      have e6 : u 6 = _ := d6_0 rfl
      clear d6_0
      go_simp
      try rfl
    conv => arg 8; simp only [List.cons_append, List.nil_append]
    apply each_read (fun _ => Below.refl _ _) rfl
    · intro u wv hC hf
      have l0 := (hC.cell (World.block_lt_of_cell? w3 _ L3.out)).trans L3.out
      obtain ⟨d5_0, d7_1, -⟩ := hf
      have e5 : u 5 = _ := d5_0 rfl
      clear d5_0
      have e7 : u 7 = _ := d7_1 rfl
      clear d7_1
      go_simp
      try rfl
    conv => arg 8; simp only [List.cons_append, List.nil_append]
    apply each_callR rfl
    · intro u wv hC hf
      have l0 := (hC.cell (World.block_lt_of_cell? w3 _ L3.out)).trans L3.out
      obtain ⟨d8_0, d4_1, -⟩ := hf
      have e8 : u 8 = _ := d8_0 rfl
      clear d8_0
      have e4 : u 4 = _ := d4_1 rfl
      clear d4_1
      apply Exists.intro; apply Exists.intro; apply And.intro
      · go_simp; exact ⟨rfl, rfl⟩
      · refine (HU2.out _).mono ?_
        rintro e w9 ⟨rfl, rfl⟩
        exact ⟨rfl, hC, Below.refl _ _⟩
    conv => arg 8; simp only [List.cons_append, List.nil_append]
    apply each_read (fun _ => Below.refl _ _) rfl
    · intro u wv hC hf
      have l0 := (hC.cell (World.block_lt_of_cell? w3 _ L3.out)).trans L3.out
      clear hf
      go_simp
      try rfl
    conv => arg 8; simp only [List.cons_append, List.nil_append]
    apply each_read (fun _ => Below.refl _ _) rfl
    · intro u wv hC hf
      have l0 := (hC.cell (World.block_lt_of_cell? w3 _ L3.out)).trans L3.out
      clear hf
      go_simp
      try rfl
    conv => arg 8; simp only [List.cons_append, List.nil_append]
    apply each_read (fun _ => Below.refl _ _) rfl
    · intro u wv hC hf
      have l0 := (hC.cell (World.block_lt_of_cell? w3 _ L3.out)).trans L3.out
      obtain ⟨d10_0, d11_1, -⟩ := hf
      have e10 : u 10 = _ := d10_0 rfl
      clear d10_0
      have e11 : u 11 = _ := d11_1 rfl
      clear d11_1
      go_simp
      try rfl
    conv => arg 8; simp only [List.cons_append, List.nil_append]
    apply each_read (fun _ => Below.refl _ _) rfl
    · intro u wv hC hf
      have l0 := (hC.cell (World.block_lt_of_cell? w3 _ L3.out)).trans L3.out
      obtain ⟨d12_0, -⟩ := hf
      have e12 : u 12 = _ := d12_0 rfl
      clear d12_0
      go_simp
      try rfl
    conv => arg 8; simp only [List.cons_append, List.nil_append]
    apply each_read (fun _ => Below.refl _ _) rfl
    · intro u wv hC hf
      have l0 := (hC.cell (World.block_lt_of_cell? w3 _ L3.out)).trans L3.out
      obtain ⟨d4_0, d9_1, d13_2, -⟩ := hf
      have e4 : u 4 = _ := d4_0 rfl
      clear d4_0
      have e9 : u 9 = _ := d9_1 rfl
      clear d9_1
      have e13 : u 13 = _ := d13_2 rfl
      clear d13_2
      go_simp
      try rfl
    conv => arg 8; simp only [List.cons_append, List.nil_append]
    refine each_do (fun v wv => ∃ g4, v = .slice (some ⟨g4, 0, none⟩) 1 1 ∧ wv.heap[g4]? = some (.cells #[.string ux, .string uy, .bool ub] 76 (0, 0))) (fun v w w2 _ hR ⟨g, h1, h2⟩ => ⟨g, h1, (hR.block g (Array.getElem?_eq_some_iff.1 h2).1).trans h2⟩) rfl ?_ ?_
    · intro u wv hC hf
      have l0 := (hC.cell (World.block_lt_of_cell? w3 _ L3.out)).trans L3.out
      obtain ⟨d14_0, -⟩ := hf
      have e14 : u 14 = _ := d14_0 rfl
      clear d14_0
      refine ⟨.slice (some ⟨wv.heap.size, 0, none⟩) 1 1, wv.alloc (.cells #[.string ux, .string uy, .bool ub] 76), ?_, Below.alloc hC hC.size _, alloc_belowS _ _, wv.heap.size, rfl, alloc_at wv _⟩
      go_simp
      try rfl
    intro u w7 d7 hall
    obtain ⟨a0, a1, a2, a3, a4, a5, a6, a7, a8, a9, a10, a11, a12, a13, a14, a15, -⟩ := hall
    have e0 : u 0 = _ := a0
    clear a0
    have e1 : u 1 = _ := a1
    clear a1
    have e2 : u 2 = _ := a2
    clear a2
    have e3 : u 3 = _ := a3
    clear a3
    have e4 : u 4 = _ := a4
    clear a4
    have e5 : u 5 = _ := a5
    clear a5
    have e6 : u 6 = _ := a6
    clear a6
    have e7 : u 7 = _ := a7
    clear a7
    have e8 : u 8 = _ := a8
    clear a8
    have e9 : u 9 = _ := a9
    clear a9
    have e10 : u 10 = _ := a10
    clear a10
    have e11 : u 11 = _ := a11
    clear a11
    have e12 : u 12 = _ := a12
    clear a12
    have e13 : u 13 = _ := a13
    clear a13
    have e14 : u 14 = _ := a14
    clear a14
    obtain ⟨g4, e15, b4⟩ := a15
    replace e15 : u 15 = _ := e15
    change wpList _ _ _ (List.drop 16 _) _ _
    simp only [List.drop_succ_cons, List.drop_zero]
    simp only [e0, e1, e2, e3, e4, e5, e6, e7, e8, e9, e10, e11, e12, e13, e14, e15]
    clear e0 e1 e2 e3 e4 e5 e6 e7 e8 e9 e10 e11 e12 e13 e14 e15
    have HR7 := Lib.hid (HR3.out.later d7 (by have := HL3.out; have := HDB2.out; omega))
    have HK7 : Hid (Kp5 (B + 1 + 1 + 1 + 1) (B + 1 + 1 + 1) (B + 1 + 1 + 1 + 1 + 1) D W w7) := Lib.hid (HK3.out.trans (Kp5.below d7 (by have := HL3.out; have := HDB2.out; omega) (by have := HL3.out; have := HDB2.out; omega) (by have := HL3.out; have := HDB2.out; omega) HL3.out))
    have HL7 : Hid (D + 1 < w7.heap.size) := Lib.hid (by have := d7.size; have := HL3.out; omega)
    clear d7
    refine wpList_appB rfl (.tmp 21) (.tmp 36) rfl Tryz.underlying67 Tryz.infoOrd rfl (by decide) rfl HR7.out.row (by have := HL7.out; omega) rfl (m := 1) (news := [.string ux, .string uy, .bool ub]) (fun i u hu => by
      match i, hu with
      | 0, hu =>
        obtain rfl := Option.some.inj hu
        rw [add_off]
        simp [World.cell?, b4]
      | 1, hu =>
        obtain rfl := Option.some.inj hu
        rw [add_off]
        simp [World.cell?, b4]
      | 2, hu =>
        obtain rfl := Option.some.inj hu
        rw [add_off]
        simp [World.cell?, b4]
      | i + 3, hu => cases hu) rfl (by decide) (fun u hu => by simp at hu; rcases hu with rfl | rfl | rfl <;> rfl) (by unfold maxLen; omega) (by omega) ?_
    intro g5 c5 w8 hn9 hg9 _
    have HR8 : Hid (RO B D w (w8.setCell ⟨B + 1 + 1, 0, none⟩ (.slice (some ⟨g5, 0, none⟩) (pre.length + 1) c5)) (.slice (some ⟨g5, 0, none⟩) (pre.length + 1) c5) (pre ++ [x])) := Lib.hid (HR7.out.putB (by have := HL7.out; have := HDB2.out; omega) (by have := HDB2.out; omega) (by rw [HPO.out]; exact hn9) hg9)
    have HB8 : Hid (Boxed w8 (B + 1 + 1) 67 (.slice aQ pre.length cQ)) := Lib.hid (HR7.out.box.kept hg9 (fun e => by have := (HR7.out.row.lt _ e.symm).1; have := HDB2.out; omega))
    have HK8 : Hid (Kp5 (B + 1 + 1 + 1 + 1) (B + 1 + 1 + 1) (B + 1 + 1 + 1 + 1 + 1) D W (w8.setCell ⟨B + 1 + 1, 0, none⟩ (.slice (some ⟨g5, 0, none⟩) (pre.length + 1) c5))) := Lib.hid (by
      have hd := HDB2.out
      have hl7 := HL7.out
      refine HK7.out.trans ((Kp5.grown hg9 (by omega) (by omega) (by omega) (by omega) (fun k hk => by have := (HR7.out.row.lt _ hk).1; omega)).trans (kp_set 0 _ (by omega) (by omega) (by omega) (by omega) (by omega))))
    have y0 := Boxed.cell (t := 67) HB8.out
    have y0f := Boxed.frozen (t := 67) HB8.out
    clear hn9 hg9 b4
    go_wp2_with fail
    exact ⟨HK8.out, ⟨_, HR8.out⟩⟩
  case done =>
    rintro W ⟨v, hR⟩ hK
    rw [HD.out] at hK ⊢
    rw [HSP.out] at hR
    have HRW := Lib.hid hR
    have HKD := Lib.hid hK
    obtain ⟨aQ, cQ, hvf⟩ := owns_form hR.row
    have HDB2 : Hid (B + 1 + 1 + 1 + 1 + 1 < D) := Lib.hid (by have := HDB.out; omega)
    subst hvf
    have HLI : Hid (OrdsIn W aQ dblL) := Lib.hid (by have h := owns_ords (l := dblP.map pOrd) HRW.out.row; rwa [dblP_map] at h)
    have HRR : Hid (RO B D w W (.slice aQ 3 cQ) dblP) := Lib.hid hR
    have HTW : Hid (Tab10 W) := Lib.hid (HE.out.later (by rw [HBE.out]; exact hR.bel))
    have HAO := Lib.hid (implAlgorithmOk_yes dblL aQ cQ W HLI.out (by decide) dblL_side)
    have HFO := Lib.hid (fun W' (h : OrdsIn W' aQ dblL) => implFormatOrders_any dblL aQ cQ W' h (by decide) (by decide) (by decide +kernel))
    rw [HTE.out] at HFO
    have l0 : W.cell? ⟨B + 1 + 1, 0, none⟩ = some (.slice aQ 3 cQ) := Boxed.cell (t := 67) HRR.out.box
    have HLW : Hid (D < W.heap.size) := Lib.hid (Array.getElem?_eq_some_iff.1 HKD.out).1
    have HNE2 : Hid (B ≠ D) := Lib.hid (by have := HDB2.out; omega)
    have HNE3 : Hid (B + 1 ≠ D) := Lib.hid (by have := HDB2.out; omega)
    have HBD : Hid (B + 1 + 1 < D) := Lib.hid (by have := HDB2.out; omega)
    have hqq : (t.toList == t.toList) = true := by simp
    clear hR hK HRW
    gi_wp2
    refine ⟨trivial, (callsIn_wide.2 HAO.out).mono ?_⟩
    rintro e w3 ⟨rfl, hb3⟩
    have HR3 := Lib.hid (HRR.out.later hb3 (by have := HLW.out; have := HDB2.out; omega))
    have HK3 : Hid (w3.heap[D]? = some (.deferred (some []))) := Lib.hid ((hb3.block D HLW.out).trans HKD.out)
    have HL3 := Lib.hid (HLI.out.later hb3)
    have HLW3 : Hid (D < w3.heap.size) := Lib.hid (Array.getElem?_eq_some_iff.1 HK3.out).1
    clear hb3 l0
    have l0 := Boxed.cell (t := 67) HR3.out.box
    gi_wp2
    refine ⟨trivial, (callsIn_wide.2 (HFO.out _ HL3.out)).mono ?_⟩
    rintro e w4 ⟨rfl, hb4⟩
    have HR4 := Lib.hid (HR3.out.later hb4 (by have := HLW3.out; have := HDB2.out; omega))
    have HK4 : Hid (w4.heap[D]? = some (.deferred (some []))) := Lib.hid ((hb4.block D HLW3.out).trans HK3.out)
    clear hb4 l0
    have p0 := Boxed.cell (t := 67) HR4.out.r0
    have p0f := Boxed.frozen (t := 67) HR4.out.r0
    have p1 := Boxed.cell (t := 4) HR4.out.r1
    have p1f := Boxed.frozen (t := 4) HR4.out.r1
    have l0 := Boxed.cell (t := 67) HR4.out.box
    have HFN := Lib.hid (HR4.out.fin (x := .slice aQ 3 cQ) (y := .bool true) HBD.out)
    gi_wp2
    refine ⟨by simp, .inl ⟨_, _, rfl, run_takeDeferred (HFN.out.2.2.2.2.trans HK4.out), ?_⟩⟩
    have q0 := boxed_put HFN.out.1 HNE2.out (.deferred none)
    have q1 := boxed_put HFN.out.2.1 HNE3.out (.deferred none)
    refine ⟨.tuple #[.slice aQ 3 cQ, .bool true], ?_, ?_⟩
    · simp [results, Tryz.results31, go_sem, q0, q1]
    · exact retFinO (a := aQ) (c := cQ) (base := D + 1 + 1) (by have h := HFN.out.2.2.1; rw [dblP_map] at h; exact h) (by rw [HBE.out]; exact HFN.out.2.2.2.1) (HFN.out.2.2.2.2.trans HK4.out) (by rw [HBE.out]; have := HBD.out; omega) (.deferred none)
  case stop =>
    rintro pre W _ h hK
    exact False.elim h
end Go.Proofs.YtoddpmdjjgnpgaaGreatDoor
namespace Go.Proofs.YtoddpmdjjgnpgaaGreatDoor
open Go.RowKit
set_option linter.unusedVariables false
def backTo (l : List (Int × Int × Bool)) (j : Nat) : Nat := ((l.take j).filter (·.2.2)).length
theorem backTo_zero (l : List (Int × Int × Bool)) : backTo l 0 = 0 := rfl
theorem backTo_yes {l : List (Int × Int × Bool)} {j : Nat} (h : j < l.length) (hb : (nthK l j).2.2 = true) : backTo l (j + 1) = backTo l j + 1 := by
  unfold backTo
  rw [List.take_succ_eq_append_getElem h, List.filter_append, List.length_append, ← nthK_lt h]
  simp [hb]
theorem backTo_no {l : List (Int × Int × Bool)} {j : Nat} (h : j < l.length) (hb : (nthK l j).2.2 = false) : backTo l (j + 1) = backTo l j := by
  unfold backTo
  rw [List.take_succ_eq_append_getElem h, List.filter_append, List.length_append, ← nthK_lt h]
  simp [hb]
theorem backTo_le (l : List (Int × Int × Bool)) (j : Nat) : backTo l j ≤ j := by
  unfold backTo
  exact Nat.le_trans (List.length_filter_le _ _) (by rw [List.length_take]; omega)
set_option maxRecDepth 20000 in
set_option maxHeartbeats 2000000 in
theorem implCountBack_any (l : List (Int × Int × Bool)) (a : Option Addr) (cap : Nat) (w : World) (hl : LinksIn w a l) (hlen : l.length ≤ 2 ^ 40) :
    Calls Tryz.prog 36 #[.slice a l.length cap] w fun e w' => e = .returned (.int .i64 ((backTo l l.length : Nat) : Int)) ∧ Below w.heap.size w w' := by
  have HL := Lib.hid hl
  clear hl
  go_enter Tryz.func36, Tryz.ntmps36
  go_wp2_with fail
  go_loopw [3, 8] (fun v i wr => ∃ j m : Nat, (j ≤ l.length ∧ m ≤ j) ∧ i = .int .i64 (j : Nat) ∧ v = .int .i64 (m : Nat) ∧ Hid (m = backTo l j) ∧ Below w.heap.size w wr) (fun _ i _ => l.length - (intOf i).toNat)
  case atStart => exact ⟨0, 0, ⟨Nat.zero_le _, Nat.le_refl _⟩, rfl, rfl, Lib.hid (backTo_zero l).symm, Below.refl _ _⟩
  case round =>
    obtain ⟨j, m, ⟨hj, hmj⟩, rfl, rfl, HM, hbel⟩ := hrel
    by_cases hlt : j < l.length
    · obtain ⟨b, off, rfl, hb, hc⟩ := (HL.out.later hbel).cell hlt
      obtain ⟨c1, c2, d3⟩ := hc j hlt
      have HY := Lib.hid (fun h => backTo_yes hlt h)
      have HN := Lib.hid (fun h => backTo_no hlt h)
      have hbel2 := Below.now hbel (alloc_belowS wr (.cells #[.int .i64 (nthK l j).1, .int .i64 (nthK l j).2.1, .bool (nthK l j).2.2] 114))
      generalize (nthK l j).1 = p1 at *
      generalize (nthK l j).2.1 = p2 at *
      generalize (nthK l j).2.2 = bk at *
      clear hc
      cases bk
      · go_wp2_with fail
        go_roundw
        case rel => exact ⟨j + 1, m, ⟨by omega, by omega⟩, by go_num, rfl, Lib.hid (by rw [HN.out rfl]; exact HM.out), hbel2⟩
        case measure => simp [intOf]; omega
      · go_wp2_with fail
        go_roundw
        case rel => exact ⟨j + 1, m + 1, ⟨by omega, by omega⟩, by go_num, by go_num, Lib.hid (by rw [HY.out rfl, HM.out]), hbel2⟩
        case measure => simp [intOf]; omega
    · obtain rfl : j = l.length := by omega
      have HM2 : Hid (∀ W, Below w.heap.size w W → Ending.returned (.int .i64 ((m : Nat) : Int)) = .returned (.int .i64 ((backTo l l.length : Nat) : Int)) ∧ Below w.heap.size w W) := Lib.hid (fun W h => ⟨by rw [HM.out], h⟩)
      go_wp2_with fail
      go_ret
      exact HM2.out _ hbel
set_option maxRecDepth 20000 in
set_option maxHeartbeats 2000000 in
theorem words_same (l : List ByteArray) (a a2 : Option Addr) (cap cap2 : Nat) (w : World) (hl : StrsIn w a l) (hl2 : StrsIn w a2 l) (hlen : l.length ≤ 2 ^ 40) :
    Calls Tryz.prog 35 #[.slice a l.length cap, .slice a2 l.length cap2] w fun e w' => e = .returned (.bool true) ∧ w = w' := by
  have HL := Lib.hid hl
  have HL2 := Lib.hid hl2
  clear hl hl2
  go_enter Tryz.func35, Tryz.ntmps35
  go_wp2_with fail
  go_loopw [14] (fun i wr => ∃ j : Nat, j ≤ l.length ∧ i = .int .i64 (j : Nat) ∧ wr = w) (fun i _ => l.length - (intOf i).toNat)
  case atStart => exact ⟨0, Nat.zero_le _, rfl, rfl⟩
  case round =>
    obtain ⟨j, hj, rfl, hwr⟩ := hrel
    have hw2 := hwr.symm
    subst hw2
    clear hwr
    by_cases hlt : j < l.length
    · obtain ⟨b, off, rfl, hb, hc⟩ := HL.out.cell hlt
      obtain ⟨b2, off2, rfl, hb2, hc2⟩ := HL2.out.cell hlt
      have c1 := hc j hlt
      have c2 := hc2 j hlt
      have hqr : ((nthS l j).toList == (nthS l j).toList) = true := by simp
      clear hc hc2
      generalize nthS l j = s at *
      go_wp2_with fail
      go_roundw
      case rel => exact ⟨j + 1, by omega, by go_num, trivial⟩
      case measure => simp [intOf]; omega
    · go_wp2_with fail
      go_ret
      exact ⟨rfl, rfl⟩
set_option maxRecDepth 20000 in
set_option maxHeartbeats 2000000 in
theorem equalR_same (l : List RulD) (a a2 : Option Addr) (cap cap2 : Nat) (w : World) (hl : RulesIn w a l) (hl2 : RulesIn w a2 l) (hlen : l.length ≤ 2 ^ 40) :
    Calls Tryz.prog 83 #[.slice a l.length cap, .slice a2 l.length cap2] w fun e w' => e = .returned (.bool true) ∧ Below w.heap.size w w' := by
  have HL := Lib.hid hl
  have HL2 := Lib.hid hl2
  clear hl hl2
  go_enter Tryz.func83, Tryz.ntmps83
  go_wp2_with fail
  go_loopw [13] (fun i wr => ∃ j : Nat, j ≤ l.length ∧ i = .int .i64 (j : Nat) ∧ Below w.heap.size w wr) (fun i _ => l.length - (intOf i).toNat)
  case atStart => exact ⟨0, Nat.zero_le _, rfl, Below.refl _ _⟩
  case round =>
    obtain ⟨j, hj, rfl, hbel⟩ := hrel
    by_cases hlt : j < l.length
    · obtain ⟨b, off, rfl, hb, hc⟩ := (HL.out.later hbel).cell hlt
      obtain ⟨b2, off2, rfl, hb2, hc2⟩ := (HL2.out.later hbel).cell hlt
      obtain ⟨c1, c2⟩ := hc j hlt
      obtain ⟨c3, c4⟩ := hc2 j hlt
      have g1 : ∀ x, (wide wr x).cell? ⟨b, off + j * 2, none⟩ = some (.string (nthR l j).1) := wide_cell c1
      have g2 : ∀ x, (wide wr x).cell? ⟨b, off + j * 2 + 1, none⟩ = some (.string (nthR l j).2) := wide_cell c2
      have g3 : ∀ x, (wide wr x).cell? ⟨b2, off2 + j * 2, none⟩ = some (.string (nthR l j).1) := wide_cell c3
      have g4 : ∀ x, (wide wr x).cell? ⟨b2, off2 + j * 2 + 1, none⟩ = some (.string (nthR l j).2) := wide_cell c4
      clear hc hc2
      generalize (nthR l j).1 = x at *
      generalize (nthR l j).2 = y at *
      have hq1 : (x.toList == x.toList) = true := by simp
      have hq2 : (y.toList == y.toList) = true := by simp
      go_wp2_with fail
      go_quiet (fail)
      go_wp2_with fail
      go_roundw
      case rel => exact ⟨j + 1, by omega, by go_num, below_drewN hbel _⟩
      case measure => simp [intOf]; omega
    · go_wp2_with fail
      go_ret
      exact ⟨rfl, hbel⟩
set_option maxRecDepth 20000 in
set_option maxHeartbeats 2000000 in
theorem sameSystem_same (k : Int) (l : List RulD) (a a2 : Option Addr) (cap cap2 : Nat) (w : World) (hl : RulesIn w a l) (hl2 : RulesIn w a2 l) (hlen : l.length ≤ 2 ^ 40) :
    Calls Tryz.prog 34 #[.agg #[.int .i64 k, .slice a l.length cap], .agg #[.int .i64 k, .slice a2 l.length cap2]] w fun e w' => e = .returned (.bool true) ∧ Below w.heap.size w w' := by
  obtain ⟨w1, hw1⟩ : ∃ w1, w1 = (w.alloc (.cells #[.int .i64 k, .slice a l.length cap] 25)).alloc (.cells #[.int .i64 k, .slice a2 l.length cap2] 25) := ⟨_, rfl⟩
  have HB : Hid (Below w.heap.size w w1) := Lib.hid (by rw [hw1]; exact ((Below.refl _ _).alloc (Nat.le_refl _) _).alloc (by simp) _)
  have HE := Lib.hid (equalR_same l a a2 cap cap2 w1 (hl.later HB.out) (hl2.later HB.out) hlen)
  have HF : Hid (∀ w9, Below w1.heap.size w1 w9 → Below w.heap.size w w9) := Lib.hid (fun w9 h => Below.now HB.out h)
  clear hl hl2
  have b0 : w1.heap[w.heap.size]? = some (.cells #[.int .i64 k, .slice a l.length cap] 25 (0, 0)) := by
    rw [hw1, (alloc_belowS _ _).block _ (by simp)]; exact alloc_at _ _
  have b1 : w1.heap[w.heap.size + 1]? = some (.cells #[.int .i64 k, .slice a2 l.length cap2] 25 (0, 0)) := by
    rw [hw1]; have h := alloc_at (w.alloc (.cells #[.int .i64 k, .slice a l.length cap] 25)) (.cells #[.int .i64 k, .slice a2 l.length cap2] 25); simpa using h
  obtain ⟨x0, x1, -, -⟩ := rec_cells b0
  obtain ⟨y0, y1, -, -⟩ := rec_cells b1
  have hkk : (k == k) = true := by simp
  go_enter Tryz.func34, Tryz.ntmps34
  go_upto_region 1 with fail
  generalize hg : (w.alloc (.cells #[.int .i64 k, .slice a l.length cap] 25)).alloc (.cells #[.int .i64 k, .slice a2 l.length cap2] 25) = wg at *
  subst hw1
  go_wp2_with fail
  refine HE.out.mono ?_
  rintro e w2 ⟨rfl, hb2⟩
  have F := HF.out _ hb2
  go_wp2_with fail
  go_ret
  exact ⟨rfl, F⟩
end Go.Proofs.YtoddpmdjjgnpgaaGreatDoor
