/-
  The walk of 'FnExactAreIsomorphic': AreIsomorphic of the program and of the reference, called on copies of the arguments.
-/
import Derived.Test.YtkkffaiacipibaaIsoFn
import Derived.Test.YtkkffaiacipibaaTabHelp
import Derived.Test.YtkkffaiacipibaaLift
import Derived.Deep.RegionHeld3
namespace Go.Proofs.Ytkkffaiacipibaa.fnExactAreIsomorphic
open Go.ChangeShapes Go.WideShapes Go.ChangeAt Go.RowKit Go.Joins
open Go.ChangeMaps (open_string shut_string)
set_option linter.unusedVariables false
set_option maxHeartbeats 1000000 in
theorem walkBig0 (n0 : Int) (l0 : List Int) (a0 : Option Addr) (c0 : Nat) (n1 : Int) (l1 : List Int) (a1 : Option Addr) (c1 : Nat) (w : World) (hl0 : IntsIn w a0 l0) (hn0 : l0.length ≤ 9223372036854775807) (hl1 : IntsIn w a1 l1) (hn1 : l1.length ≤ 9223372036854775807) (hs0 : (1048576 : Int) < (l0.length : Int)) :
    Calls Try.prog 6 #[.agg #[.int .i64 n0, .slice a0 l0.length c0], .agg #[.int .i64 n1, .slice a1 l1.length c1]] w fun e w' => e = .returned (.bool true) ∧ Below w.heap.size w w' := by
  have HS0 := fun w => szTable_any n0 l0.length c0 a0 1048576 w (by omega) (by omega) (by omega)
  rw [if_pos hs0] at HS0
  have HT0 := fun w => Lib.hid (HS0 w)
  clear HS0
  clear hl0
  clear hl1
  go_enter Try.func6, Try.ntmps6
  go_wp2_with fail
  refine (HT0 _).out.mono ?_
  rintro e u0 ⟨rfl, hb0⟩
  have hk0 : Below w.heap.size w u0 := Below.now (by repeat (first | exact Below.refl _ _ | refine Below.drew ?_ | refine below_drewN ?_ _ | refine Below.alloc ?_ (by simp; try omega) _)) hb0
  clear hb0
  go_wp2_with fail
  go_ret
  exact ⟨rfl, hk0⟩
set_option maxHeartbeats 1000000 in
theorem walkBig1 (n0 : Int) (l0 : List Int) (a0 : Option Addr) (c0 : Nat) (n1 : Int) (l1 : List Int) (a1 : Option Addr) (c1 : Nat) (w : World) (hl0 : IntsIn w a0 l0) (hn0 : l0.length ≤ 9223372036854775807) (hl1 : IntsIn w a1 l1) (hn1 : l1.length ≤ 9223372036854775807) (hs0 : ¬ (1048576 : Int) < (l0.length : Int)) (hs1 : ((1048576 - (l0.length : Int)) : Int) < (l1.length : Int)) :
    Calls Try.prog 6 #[.agg #[.int .i64 n0, .slice a0 l0.length c0], .agg #[.int .i64 n1, .slice a1 l1.length c1]] w fun e w' => e = .returned (.bool true) ∧ Below w.heap.size w w' := by
  have HS0 := fun w => szTable_any n0 l0.length c0 a0 1048576 w (by omega) (by omega) (by omega)
  rw [if_neg hs0] at HS0
  have HT0 := fun w => Lib.hid (HS0 w)
  clear HS0
  have HS1 := fun w => szTable_any n1 l1.length c1 a1 (1048576 - (l0.length : Int)) w (by omega) (by omega) (by omega)
  rw [if_pos hs1] at HS1
  have HT1 := fun w => Lib.hid (HS1 w)
  clear HS1
  clear hl0
  clear hl1
  go_enter Try.func6, Try.ntmps6
  go_wp2_with fail
  refine (HT0 _).out.mono ?_
  rintro e u0 ⟨rfl, hb0⟩
  have hk0 : Below w.heap.size w u0 := Below.now (by repeat (first | exact Below.refl _ _ | refine Below.drew ?_ | refine below_drewN ?_ _ | refine Below.alloc ?_ (by simp; try omega) _)) hb0
  have q10 : u0.cell? ⟨w.heap.size + 1, 0, none⟩ = some (.int .i64 n1) := by rw [hb0.cell (by simp; try omega)]; simp [go_sem]
  have q11 : u0.cell? ⟨w.heap.size + 1, 1, none⟩ = some (.slice a1 l1.length c1) := by rw [hb0.cell (by simp; try omega)]; simp [go_sem]
  clear hb0
  go_wp2_with fail
  refine (HT1 _).out.mono ?_
  rintro e u1 ⟨rfl, hb1⟩
  have hk1 : Below w.heap.size w u1 := Below.now hk0 hb1
  clear hb1
  go_wp2_with fail
  go_ret
  exact ⟨rfl, hk1⟩
set_option maxRecDepth 100000 in
set_option maxHeartbeats 2000000 in
theorem walkSmall (n0 : Int) (l0 : List Int) (a0 : Option Addr) (c0 : Nat) (n1 : Int) (l1 : List Int) (a1 : Option Addr) (c1 : Nat) (w : World) (hl0 : IntsIn w a0 l0) (hn0 : l0.length ≤ 9223372036854775807) (hl1 : IntsIn w a1 l1) (hn1 : l1.length ≤ 9223372036854775807) (hs0 : ¬ (1048576 : Int) < (l0.length : Int)) (hs1 : ¬ ((1048576 - (l0.length : Int)) : Int) < (l1.length : Int)) :
    Calls Try.prog 6 #[.agg #[.int .i64 n0, .slice a0 l0.length c0], .agg #[.int .i64 n1, .slice a1 l1.length c1]] w fun e w' => e = .returned (.bool true) ∧ Below w.heap.size w w' := by
  have HS0 := fun w => szTable_any n0 l0.length c0 a0 1048576 w (by omega) (by omega) (by omega)
  rw [if_neg hs0] at HS0
  have HT0 := fun w => Lib.hid (HS0 w)
  clear HS0
  have HS1 := fun w => szTable_any n1 l1.length c1 a1 (1048576 - (l0.length : Int)) w (by omega) (by omega) (by omega)
  rw [if_neg hs1] at HS1
  have HT1 := fun w => Lib.hid (HS1 w)
  clear HS1
  have hz0 : l0.length ≤ 1048576 := by omega
  have hz1 : l1.length ≤ 1048576 := by omega
  have hzS : l0.length + l1.length ≤ 1048576 := by omega
  have HL0 := Lib.hid hl0
  have HL1 := Lib.hid hl1
  clear hl0
  clear hl1
  clear hs0 hs1
  go_enter Try.func6, Try.ntmps6
  go_wp2_with fail
  refine (HT0 _).out.mono ?_
  rintro e u0 ⟨rfl, hb0⟩
  have hk0 : Below w.heap.size w u0 := Below.now (by repeat (first | exact Below.refl _ _ | refine Below.drew ?_ | refine below_drewN ?_ _ | refine Below.alloc ?_ (by simp; try omega) _)) hb0
  have q00 : u0.cell? ⟨w.heap.size, 0, none⟩ = some (.int .i64 n0) := by rw [hb0.cell (by simp; try omega)]; simp [go_sem]
  have q01 : u0.cell? ⟨w.heap.size, 1, none⟩ = some (.slice a0 l0.length c0) := by rw [hb0.cell (by simp; try omega)]; simp [go_sem]
  have q10 : u0.cell? ⟨w.heap.size + 1, 0, none⟩ = some (.int .i64 n1) := by rw [hb0.cell (by simp; try omega)]; simp [go_sem]
  have q11 : u0.cell? ⟨w.heap.size + 1, 1, none⟩ = some (.slice a1 l1.length c1) := by rw [hb0.cell (by simp; try omega)]; simp [go_sem]
  clear hb0
  go_wp2_with fail
  refine (HT1 _).out.mono ?_
  rintro e u1 ⟨rfl, hb1⟩
  have hk1 : Below w.heap.size w u1 := Below.now hk0 hb1
  replace q00 := (hb1.cell (World.block_lt_of_cell? _ _ q00)).trans q00
  replace q01 := (hb1.cell (World.block_lt_of_cell? _ _ q01)).trans q01
  replace q10 := (hb1.cell (World.block_lt_of_cell? _ _ q10)).trans q10
  replace q11 := (hb1.cell (World.block_lt_of_cell? _ _ q11)).trans q11
  clear hb1
  have hbel := Lib.hid hk1
  clear hk0 hk1
  have x00 : ∀ W, Below u1.heap.size u1 W → W.cell? ⟨w.heap.size, 0, none⟩ = some (.int .i64 n0) := fun W hW => (hW.cell (World.block_lt_of_cell? _ _ q00)).trans q00
  have x01 : ∀ W, Below u1.heap.size u1 W → W.cell? ⟨w.heap.size, 1, none⟩ = some (.slice a0 l0.length c0) := fun W hW => (hW.cell (World.block_lt_of_cell? _ _ q01)).trans q01
  clear q00 q01
  have x10 : ∀ W, Below u1.heap.size u1 W → W.cell? ⟨w.heap.size + 1, 0, none⟩ = some (.int .i64 n1) := fun W hW => (hW.cell (World.block_lt_of_cell? _ _ q10)).trans q10
  have x11 : ∀ W, Below u1.heap.size u1 W → W.cell? ⟨w.heap.size + 1, 1, none⟩ = some (.slice a1 l1.length c1) := fun W hW => (hW.cell (World.block_lt_of_cell? _ _ q11)).trans q11
  clear q10 q11
  replace HL0 := Lib.hid (HL0.out.later hbel.out)
  replace HL1 := Lib.hid (HL1.out.later hbel.out)
  have d1 := Below.refl u1.heap.size u1
  have r0 := x00 _ d1
  have r1 := x01 _ d1
  have r2 := x10 _ d1
  have r3 := x11 _ d1
  have Gx00 := Lib.hid x00
  have Gx01 := Lib.hid x01
  have Gx10 := Lib.hid x10
  have Gx11 := Lib.hid x11
  clear x00 x01 x10 x11 d1
  go_wp2_with fail
  go_region_held3 (fun w' => w'.cell? ⟨w.heap.size, 0, none⟩ = some (.int .i64 n0) ∧ w'.cell? ⟨w.heap.size, 1, none⟩ = some (.slice a0 l0.length c0) ∧ w'.cell? ⟨w.heap.size + 1, 0, none⟩ = some (.int .i64 n1) ∧ w'.cell? ⟨w.heap.size + 1, 1, none⟩ = some (.slice a1 l1.length c1)) (go_keep) (first
    | (go_at_call 19; (with_reducible refine (toTable_any n0 l0 a0 c0 _ (HL0.out.later (by repeat (first | exact Below.refl _ _ | refine Below.drew ?_ | refine below_drewN ?_ _))) (by omega)).mono ?_); rintro e v1 ⟨ap0, cp0, rfl, ho, hb⟩; have k1 : Below u1.heap.size u1 v1 := Below.now (by repeat (first | exact Below.refl _ _ | refine Below.drew ?_ | refine below_drewN ?_ _)) hb; have s0 : v1.cell? ⟨w.heap.size, 0, none⟩ = some (.int .i64 n0) := (k1.cell (World.block_lt_of_cell? u1 _ r0)).trans r0; have s1 : v1.cell? ⟨w.heap.size, 1, none⟩ = some (.slice a0 l0.length c0) := (k1.cell (World.block_lt_of_cell? u1 _ r1)).trans r1; have s2 : v1.cell? ⟨w.heap.size + 1, 0, none⟩ = some (.int .i64 n1) := (k1.cell (World.block_lt_of_cell? u1 _ r2)).trans r2; have s3 : v1.cell? ⟨w.heap.size + 1, 1, none⟩ = some (.slice a1 l1.length c1) := (k1.cell (World.block_lt_of_cell? u1 _ r3)).trans r3; have HO0 := Lib.hid (owns_ints (l := l0) ho); clear ho hb)
    | (go_at_call 19; (with_reducible refine (toTable_any n1 l1 a1 c1 _ (HL1.out.later k1) (by omega)).mono ?_); rintro e v2 ⟨ap1, cp1, rfl, ho, hb⟩; have K2 := Lib.hid hb; have k2 : Below u1.heap.size u1 v2 := Below.now k1 hb; have t0 : v2.cell? ⟨w.heap.size, 0, none⟩ = some (.int .i64 n0) := (k2.cell (World.block_lt_of_cell? u1 _ r0)).trans r0; have t1 : v2.cell? ⟨w.heap.size, 1, none⟩ = some (.slice a0 l0.length c0) := (k2.cell (World.block_lt_of_cell? u1 _ r1)).trans r1; have t2 : v2.cell? ⟨w.heap.size + 1, 0, none⟩ = some (.int .i64 n1) := (k2.cell (World.block_lt_of_cell? u1 _ r2)).trans r2; have t3 : v2.cell? ⟨w.heap.size + 1, 1, none⟩ = some (.slice a1 l1.length c1) := (k2.cell (World.block_lt_of_cell? u1 _ r3)).trans r3; have HO1 := Lib.hid (owns_ints (l := l1) ho); clear ho hb)
    | (go_at_call 30; refine (specAreIsomorphic_any n0 l0 ap0 cp0 n1 l1 ap1 cp1 _ (HO0.out.later K2.out) (by omega) HO1.out (by omega)).mono ?_; rintro e v3 ⟨rfl, hb⟩; have k3 : Below u1.heap.size u1 v3 := Below.now k2 hb; have q0 : v3.cell? ⟨w.heap.size, 0, none⟩ = some (.int .i64 n0) := (k3.cell (World.block_lt_of_cell? u1 _ r0)).trans r0; have q1 : v3.cell? ⟨w.heap.size, 1, none⟩ = some (.slice a0 l0.length c0) := (k3.cell (World.block_lt_of_cell? u1 _ r1)).trans r1; have q2 : v3.cell? ⟨w.heap.size + 1, 0, none⟩ = some (.int .i64 n1) := (k3.cell (World.block_lt_of_cell? u1 _ r2)).trans r2; have q3 : v3.cell? ⟨w.heap.size + 1, 1, none⟩ = some (.slice a1 l1.length c1) := (k3.cell (World.block_lt_of_cell? u1 _ r3)).trans r3; clear hb))
  have d1 := k3
  have x00 := Gx00.out
  have x01 := Gx01.out
  have x10 := Gx10.out
  have x11 := Gx11.out
  clear r0 r1 r2 r3 s0 s1 s2 s3 t0 t1 t2 t3 q0 q1 q2 q3 k1 k2 k3 K2 Gx00 Gx01 Gx10 Gx11
  have sz3 : Hid (u1.heap.size ≤ v3.heap.size) := d1.size
  have d3 := Below.refl v3.heap.size v3
  go_wp2_with fail
  refine (toTable_any n0 l0 a0 c0 _ (HL0.out.later (Below.now d1 (by repeat (first | exact Below.refl _ _ | refine Below.drew ?_ | refine below_drewN ?_ _ | refine Below.alloc ?_ (by simp; try omega) _)))) (by omega)).mono ?_
  rintro e v4 ⟨ax0, cx0, rfl, ho, hb⟩
  have hc : Below v3.heap.size v3 v4 := Below.now (by repeat (first | exact Below.refl _ _ | refine Below.drew ?_ | refine below_drewN ?_ _ | refine Below.alloc ?_ (by simp; try omega) _)) hb
  have hsz := hc.size
  replace d1 := Below.now d1 hc
  replace d3 := Below.now d3 hc
  have HOx0 : Hid (v4.ownsRow v3.heap.size 3 1 (.slice ax0 l0.length cx0) l0.length (l0.map (Value.int .i64))) := owns_mono ho (by simp; try omega)
  have lox0 : Hid (v3.heap.size ≤ v4.heap.size) := hc.size
  clear ho hb hc hsz
  have ex0 := Below.refl v4.heap.size v4
  have g0 : ∀ o, (v4.alloc o).cell? ⟨w.heap.size + 1, 0, none⟩ = some (.int .i64 n1) := fun o => x10 _ (Below.now d1 ((Below.refl _ _).alloc (Nat.le_refl _) o))
  have g1 : ∀ o, (v4.alloc o).cell? ⟨w.heap.size + 1, 1, none⟩ = some (.slice a1 l1.length c1) := fun o => x11 _ (Below.now d1 ((Below.refl _ _).alloc (Nat.le_refl _) o))
  go_wp2_with fail
  clear g0 g1
  refine (toTable_any n1 l1 a1 c1 _ (HL1.out.later (Below.now d1 (by repeat (first | exact Below.refl _ _ | refine Below.drew ?_ | refine below_drewN ?_ _ | refine Below.alloc ?_ (by simp; try omega) _)))) (by omega)).mono ?_
  rintro e v5 ⟨ax1, cx1, rfl, ho, hb⟩
  have y00 : v5.cell? ⟨v4.heap.size, 0, none⟩ = some (.int .i64 n0) := by rw [hb.cell (by simp; try omega)]; simp [go_sem]
  have y01 : v5.cell? ⟨v4.heap.size, 1, none⟩ = some (.slice ax0 l0.length cx0) := by rw [hb.cell (by simp; try omega)]; simp [go_sem]
  have hc : Below v4.heap.size v4 v5 := Below.now (by repeat (first | exact Below.refl _ _ | refine Below.drew ?_ | refine below_drewN ?_ _ | refine Below.alloc ?_ (by simp; try omega) _)) hb
  have hsz := hc.size
  replace d1 := Below.now d1 hc
  replace d3 := Below.now d3 hc
  replace ex0 := Below.now ex0 hc
  have HOx1 : Hid (v5.ownsRow v4.heap.size 3 1 (.slice ax1 l1.length cx1) l1.length (l1.map (Value.int .i64))) := owns_mono ho (by simp; try omega)
  have lox1 : Hid (v4.heap.size ≤ v5.heap.size) := hc.size
  clear ho hb hc hsz
  have ex1 := Below.refl v5.heap.size v5
  have g0 : ∀ o, (v5.alloc o).cell? ⟨v4.heap.size, 0, none⟩ = some (.int .i64 n0) := fun o => by rw [World.cell?_alloc_lt v5 o _ (World.block_lt_of_cell? v5 _ y00)]; exact y00
  have g1 : ∀ o, (v5.alloc o).cell? ⟨v4.heap.size, 1, none⟩ = some (.slice ax0 l0.length cx0) := fun o => by rw [World.cell?_alloc_lt v5 o _ (World.block_lt_of_cell? v5 _ y01)]; exact y01
  go_wp2_with fail
  clear g0 g1
  refine (implAreIsomorphic_any n0 l0 ax0 cx0 n1 l1 ax1 cx1 _ ((owns_ints (l := l0) HOx0.out).later (Below.now ex0 (by repeat (first | exact Below.refl _ _ | refine Below.drew ?_ | refine below_drewN ?_ _ | refine Below.alloc ?_ (by simp; try omega) _)))) (by omega) ((owns_ints (l := l1) HOx1.out).later (Below.now ex1 (by repeat (first | exact Below.refl _ _ | refine Below.drew ?_ | refine below_drewN ?_ _ | refine Below.alloc ?_ (by simp; try omega) _)))) (by omega)).mono ?_
  rintro e v6 ⟨rfl, hb⟩
  have y10 : v6.cell? ⟨v5.heap.size, 0, none⟩ = some (.int .i64 n1) := by rw [hb.cell (by simp; try omega)]; simp [go_sem]
  have y11 : v6.cell? ⟨v5.heap.size, 1, none⟩ = some (.slice ax1 l1.length cx1) := by rw [hb.cell (by simp; try omega)]; simp [go_sem]
  have hc : Below v5.heap.size v5 v6 := Below.now (by repeat (first | exact Below.refl _ _ | refine Below.drew ?_ | refine below_drewN ?_ _ | refine Below.alloc ?_ (by simp; try omega) _)) hb
  replace y00 := (hc.cell (World.block_lt_of_cell? _ _ y00)).trans y00
  replace y01 := (hc.cell (World.block_lt_of_cell? _ _ y01)).trans y01
  have hsz := hc.size
  replace d1 := Below.now d1 hc
  replace d3 := Below.now d3 hc
  replace ex0 := Below.now ex0 hc
  replace ex1 := Below.now ex1 hc
  clear hb hc hsz
  have d7 := Below.refl v6.heap.size v6
  have z00 : ∀ W, Below v6.heap.size v6 W → W.cell? ⟨v4.heap.size, 0, none⟩ = some (.int .i64 n0) := fun W hW => (hW.cell (World.block_lt_of_cell? _ _ y00)).trans y00
  have z01 : ∀ W, Below v6.heap.size v6 W → W.cell? ⟨v4.heap.size, 1, none⟩ = some (.slice ax0 l0.length cx0) := fun W hW => (hW.cell (World.block_lt_of_cell? _ _ y01)).trans y01
  clear y00 y01
  have z10 : ∀ W, Below v6.heap.size v6 W → W.cell? ⟨v5.heap.size, 0, none⟩ = some (.int .i64 n1) := fun W hW => (hW.cell (World.block_lt_of_cell? _ _ y10)).trans y10
  have z11 : ∀ W, Below v6.heap.size v6 W → W.cell? ⟨v5.heap.size, 1, none⟩ = some (.slice ax1 l1.length cx1) := fun W hW => (hW.cell (World.block_lt_of_cell? _ _ y11)).trans y11
  clear y10 y11
  go_wp2_with fail
  have r0 := x00 _ d1
  have r1 := x01 _ d1
  have r2 := z00 _ d7
  have r3 := z01 _ d7
  have Gx00 := Lib.hid x00
  have Gx01 := Lib.hid x01
  have Gx10 := Lib.hid x10
  have Gx11 := Lib.hid x11
  have Gz00 := Lib.hid z00
  have Gz01 := Lib.hid z01
  have Gz10 := Lib.hid z10
  have Gz11 := Lib.hid z11
  clear x00 x01 x10 x11 z00 z01 z10 z11
  have Gd1 := Lib.hid d1
  have Gd3 := Lib.hid d3
  have Gex0 := Lib.hid ex0
  have Gex1 := Lib.hid ex1
  have Gd7 := Lib.hid d7
  clear d1 d3 ex0 ex1 d7
  go_region_held3 (fun w' => w'.cell? ⟨w.heap.size, 0, none⟩ = some (.int .i64 n0) ∧ w'.cell? ⟨w.heap.size, 1, none⟩ = some (.slice a0 l0.length c0) ∧ w'.cell? ⟨v4.heap.size, 0, none⟩ = some (.int .i64 n0) ∧ w'.cell? ⟨v4.heap.size, 1, none⟩ = some (.slice ax0 l0.length cx0)) (go_keep) (first | (go_at_call 19; refine (toTable_any n0 l0 a0 c0 _ (HL0.out.later (Below.now Gd1.out (Below.drew (Below.refl _ _)))) (by omega)).mono ?_; rintro e v7 ⟨aq, cq, rfl, ho, hb⟩; have k1 : Below v6.heap.size v6 v7 := Below.now (Below.drew (Below.refl _ _)) hb; have s0 := (k1.cell (World.block_lt_of_cell? v6 _ r0)).trans r0; have s1 := (k1.cell (World.block_lt_of_cell? v6 _ r1)).trans r1; have s2 := (k1.cell (World.block_lt_of_cell? v6 _ r2)).trans r2; have s3 := (k1.cell (World.block_lt_of_cell? v6 _ r3)).trans r3; have HLt := Lib.hid (owns_ints (l := l0) ho); clear ho hb) | (go_at_call 21; refine (eqTable_same n0 l0 ax0 aq cx0 cq _ ((owns_ints (l := l0) HOx0.out).later (Below.now Gex0.out k1)) HLt.out (by omega)).mono ?_; rintro e v8 ⟨rfl, hb⟩; have k2 : Below v6.heap.size v6 v8 := Below.now k1 hb; have t0 := (k2.cell (World.block_lt_of_cell? v6 _ r0)).trans r0; have t1 := (k2.cell (World.block_lt_of_cell? v6 _ r1)).trans r1; have t2 := (k2.cell (World.block_lt_of_cell? v6 _ r2)).trans r2; have t3 := (k2.cell (World.block_lt_of_cell? v6 _ r3)).trans r3; clear hb))
  have hc := k2
  have d1 := Below.now Gd1.out hc
  have d3 := Below.now Gd3.out hc
  have ex0 := Below.now Gex0.out hc
  have ex1 := Below.now Gex1.out hc
  have d7 := Below.now Gd7.out hc
  have x00 := Gx00.out
  have x01 := Gx01.out
  have x10 := Gx10.out
  have x11 := Gx11.out
  have z00 := Gz00.out
  have z01 := Gz01.out
  have z10 := Gz10.out
  have z11 := Gz11.out
  clear r0 r1 r2 r3 s0 s1 s2 s3 t0 t1 t2 t3 k1 k2 hc HLt Gd1 Gd3 Gex0 Gex1 Gd7 Gx00 Gx01 Gx10 Gx11 Gz00 Gz01 Gz10 Gz11
  go_wp2_with fail
  have r0 := x10 _ d1
  have r1 := x11 _ d1
  have r2 := z10 _ d7
  have r3 := z11 _ d7
  have Gx00 := Lib.hid x00
  have Gx01 := Lib.hid x01
  have Gx10 := Lib.hid x10
  have Gx11 := Lib.hid x11
  have Gz00 := Lib.hid z00
  have Gz01 := Lib.hid z01
  have Gz10 := Lib.hid z10
  have Gz11 := Lib.hid z11
  clear x00 x01 x10 x11 z00 z01 z10 z11
  have Gd1 := Lib.hid d1
  have Gd3 := Lib.hid d3
  have Gex0 := Lib.hid ex0
  have Gex1 := Lib.hid ex1
  have Gd7 := Lib.hid d7
  clear d1 d3 ex0 ex1 d7
  go_region_held3 (fun w' => w'.cell? ⟨w.heap.size + 1, 0, none⟩ = some (.int .i64 n1) ∧ w'.cell? ⟨w.heap.size + 1, 1, none⟩ = some (.slice a1 l1.length c1) ∧ w'.cell? ⟨v5.heap.size, 0, none⟩ = some (.int .i64 n1) ∧ w'.cell? ⟨v5.heap.size, 1, none⟩ = some (.slice ax1 l1.length cx1)) (go_keep) (first | (go_at_call 19; refine (toTable_any n1 l1 a1 c1 _ (HL1.out.later (Below.now Gd1.out (Below.drew (Below.refl _ _)))) (by omega)).mono ?_; rintro e v9 ⟨aq, cq, rfl, ho, hb⟩; have k1 : Below v8.heap.size v8 v9 := Below.now (Below.drew (Below.refl _ _)) hb; have s0 := (k1.cell (World.block_lt_of_cell? v8 _ r0)).trans r0; have s1 := (k1.cell (World.block_lt_of_cell? v8 _ r1)).trans r1; have s2 := (k1.cell (World.block_lt_of_cell? v8 _ r2)).trans r2; have s3 := (k1.cell (World.block_lt_of_cell? v8 _ r3)).trans r3; have HLt := Lib.hid (owns_ints (l := l1) ho); clear ho hb) | (go_at_call 21; refine (eqTable_same n1 l1 ax1 aq cx1 cq _ ((owns_ints (l := l1) HOx1.out).later (Below.now Gex1.out k1)) HLt.out (by omega)).mono ?_; rintro e v10 ⟨rfl, hb⟩; have k2 : Below v8.heap.size v8 v10 := Below.now k1 hb; have t0 := (k2.cell (World.block_lt_of_cell? v8 _ r0)).trans r0; have t1 := (k2.cell (World.block_lt_of_cell? v8 _ r1)).trans r1; have t2 := (k2.cell (World.block_lt_of_cell? v8 _ r2)).trans r2; have t3 := (k2.cell (World.block_lt_of_cell? v8 _ r3)).trans r3; clear hb))
  have hc := k2
  have d1 := Below.now Gd1.out hc
  have d3 := Below.now Gd3.out hc
  have ex0 := Below.now Gex0.out hc
  have ex1 := Below.now Gex1.out hc
  have d7 := Below.now Gd7.out hc
  have x00 := Gx00.out
  have x01 := Gx01.out
  have x10 := Gx10.out
  have x11 := Gx11.out
  have z00 := Gz00.out
  have z01 := Gz01.out
  have z10 := Gz10.out
  have z11 := Gz11.out
  clear r0 r1 r2 r3 s0 s1 s2 s3 t0 t1 t2 t3 k1 k2 hc HLt Gd1 Gd3 Gex0 Gex1 Gd7 Gx00 Gx01 Gx10 Gx11 Gz00 Gz01 Gz10 Gz11
  go_wp2_with fail
  go_ret
  exact ⟨rfl, Below.now hbel.out d1⟩
theorem walk (n0 : Int) (l0 : List Int) (a0 : Option Addr) (c0 : Nat) (n1 : Int) (l1 : List Int) (a1 : Option Addr) (c1 : Nat) (w : World) (hl0 : IntsIn w a0 l0) (hn0 : l0.length ≤ 9223372036854775807) (hl1 : IntsIn w a1 l1) (hn1 : l1.length ≤ 9223372036854775807) :
    Calls Try.prog 6 #[.agg #[.int .i64 n0, .slice a0 l0.length c0], .agg #[.int .i64 n1, .slice a1 l1.length c1]] w fun e w' => e = .returned (.bool true) ∧ Below w.heap.size w w' := by
  by_cases hs0 : (1048576 : Int) < (l0.length : Int)
  · exact walkBig0 n0 l0 a0 c0 n1 l1 a1 c1 w hl0 hn0 hl1 hn1  hs0
  by_cases hs1 : ((1048576 - (l0.length : Int)) : Int) < (l1.length : Int)
  · exact walkBig1 n0 l0 a0 c0 n1 l1 a1 c1 w hl0 hn0 hl1 hn1 hs0 hs1
  exact walkSmall n0 l0 a0 c0 n1 l1 a1 c1 w hl0 hn0 hl1 hn1 hs0 hs1
end Go.Proofs.Ytkkffaiacipibaa.fnExactAreIsomorphic
