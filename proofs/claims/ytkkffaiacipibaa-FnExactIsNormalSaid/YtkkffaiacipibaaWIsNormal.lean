/-
  The walk of 'FnExactIsNormal': IsNormal of the program and of the reference, called on copies of the arguments.
-/
import Derived.Test.YtkkffaiacipibaaNormSp
import Derived.Test.YtkkffaiacipibaaRng
import Derived.Test.YtkkffaiacipibaaTabHelp
import Derived.Test.YtkkffaiacipibaaLift
import Derived.Deep.RegionHeld3
namespace Go.Proofs.Ytkkffaiacipibaa.fnExactIsNormal
open Go.ChangeShapes Go.WideShapes Go.ChangeAt Go.RowKit Go.Joins
open Go.ChangeMaps (open_string shut_string)
set_option linter.unusedVariables false
set_option maxHeartbeats 1000000 in
theorem walkBig1 (n0 : Int) (l0 : List Int) (a0 : Option Addr) (c0 : Nat) (l1 : List Int) (a1 : Option Addr) (c1 : Nat) (w : World) (hl0 : IntsIn w a0 l0) (hn0 : l0.length ≤ 9223372036854775807) (hl1 : IntsIn w a1 l1) (hn1 : l1.length ≤ 9223372036854775807) (hs1 : (1048576 : Int) < (l1.length : Int)) :
    Calls Try.prog 13 #[.agg #[.int .i64 n0, .slice a0 l0.length c0], .slice a1 l1.length c1] w fun e w' => e = .returned (.bool true) ∧ Below w.heap.size w w' := by
  clear hl0
  clear hl1
  go_enter Try.func13, Try.ntmps13
  go_wp2_with fail
  go_ret
  exact ⟨rfl, (by repeat (first | exact Below.refl _ _ | refine Below.drew ?_ | refine below_drewN ?_ _ | refine Below.alloc ?_ (by simp; try omega) _))⟩
set_option maxHeartbeats 1000000 in
theorem walkBig0 (n0 : Int) (l0 : List Int) (a0 : Option Addr) (c0 : Nat) (l1 : List Int) (a1 : Option Addr) (c1 : Nat) (w : World) (hl0 : IntsIn w a0 l0) (hn0 : l0.length ≤ 9223372036854775807) (hl1 : IntsIn w a1 l1) (hn1 : l1.length ≤ 9223372036854775807) (hs1 : ¬ (1048576 : Int) < (l1.length : Int)) (hs0 : (1048576 : Int) < (l0.length : Int)) :
    Calls Try.prog 13 #[.agg #[.int .i64 n0, .slice a0 l0.length c0], .slice a1 l1.length c1] w fun e w' => e = .returned (.bool true) ∧ Below w.heap.size w w' := by
  have HS0 := fun w => szTable_any n0 l0.length c0 a0 1048576 w (by omega) (by omega) (by omega)
  rw [if_pos hs0] at HS0
  have HT0 := fun w => Lib.hid (HS0 w)
  clear HS0
  clear hl0
  clear hl1
  go_enter Try.func13, Try.ntmps13
  go_wp2_with fail
  refine (HT0 _).out.mono ?_
  rintro e u0 ⟨rfl, hb0⟩
  have hk0 : Below w.heap.size w u0 := Below.now (by repeat (first | exact Below.refl _ _ | refine Below.drew ?_ | refine below_drewN ?_ _ | refine Below.alloc ?_ (by simp; try omega) _)) hb0
  clear hb0
  go_wp2_with fail
  go_ret
  exact ⟨rfl, hk0⟩
set_option maxRecDepth 100000 in
set_option maxHeartbeats 2000000 in
theorem walkSmall (n0 : Int) (l0 : List Int) (a0 : Option Addr) (c0 : Nat) (l1 : List Int) (a1 : Option Addr) (c1 : Nat) (w : World) (hl0 : IntsIn w a0 l0) (hn0 : l0.length ≤ 9223372036854775807) (hl1 : IntsIn w a1 l1) (hn1 : l1.length ≤ 9223372036854775807) (hs1 : ¬ (1048576 : Int) < (l1.length : Int)) (hs0 : ¬ (1048576 : Int) < (l0.length : Int)) :
    Calls Try.prog 13 #[.agg #[.int .i64 n0, .slice a0 l0.length c0], .slice a1 l1.length c1] w fun e w' => e = .returned (.bool true) ∧ Below w.heap.size w w' := by
  have HS0 := fun w => szTable_any n0 l0.length c0 a0 1048576 w (by omega) (by omega) (by omega)
  rw [if_neg hs0] at HS0
  have HT0 := fun w => Lib.hid (HS0 w)
  clear HS0
  have hz1 : l1.length ≤ 1048576 := by omega
  have hz0 : l0.length ≤ 1048576 := by omega
  have HL0 := Lib.hid hl0
  have HL1 := Lib.hid hl1
  clear hl0
  clear hl1
  clear hs1 hs0
  go_enter Try.func13, Try.ntmps13
  go_wp2_with fail
  refine (HT0 _).out.mono ?_
  rintro e u0 ⟨rfl, hb0⟩
  have hk0 : Below w.heap.size w u0 := Below.now (by repeat (first | exact Below.refl _ _ | refine Below.drew ?_ | refine below_drewN ?_ _ | refine Below.alloc ?_ (by simp; try omega) _)) hb0
  have q00 : u0.cell? ⟨w.heap.size, 0, none⟩ = some (.int .i64 n0) := by rw [hb0.cell (by simp; try omega)]; simp [go_sem]
  have q01 : u0.cell? ⟨w.heap.size, 1, none⟩ = some (.slice a0 l0.length c0) := by rw [hb0.cell (by simp; try omega)]; simp [go_sem]
  clear hb0
  have hbel := Lib.hid hk0
  clear hk0
  have x00 : ∀ W, Below u0.heap.size u0 W → W.cell? ⟨w.heap.size, 0, none⟩ = some (.int .i64 n0) := fun W hW => (hW.cell (World.block_lt_of_cell? _ _ q00)).trans q00
  have x01 : ∀ W, Below u0.heap.size u0 W → W.cell? ⟨w.heap.size, 1, none⟩ = some (.slice a0 l0.length c0) := fun W hW => (hW.cell (World.block_lt_of_cell? _ _ q01)).trans q01
  clear q00 q01
  replace HL0 := Lib.hid (HL0.out.later hbel.out)
  replace HL1 := Lib.hid (HL1.out.later hbel.out)
  have d1 := Below.refl u0.heap.size u0
  go_wp2_with fail
  refine (toTable_any n0 l0 a0 c0 _ (HL0.out.later (Below.now d1 (by repeat (first | exact Below.refl _ _ | refine Below.drew ?_ | refine below_drewN ?_ _ | refine Below.alloc ?_ (by simp; try omega) _)))) (by omega)).mono ?_
  rintro e v1 ⟨ap0, cp0, rfl, ho, hb⟩
  have hc : Below u0.heap.size u0 v1 := Below.now (by repeat (first | exact Below.refl _ _ | refine Below.drew ?_ | refine below_drewN ?_ _ | refine Below.alloc ?_ (by simp; try omega) _)) hb
  have hsz := hc.size
  replace d1 := Below.now d1 hc
  have HOp0 : Hid (v1.ownsRow u0.heap.size 3 1 (.slice ap0 l0.length cp0) l0.length (l0.map (Value.int .i64))) := owns_mono ho (by simp; try omega)
  have lop0 : Hid (u0.heap.size ≤ v1.heap.size) := hc.size
  clear ho hb hc hsz
  have ep0 := Below.refl v1.heap.size v1
  go_wp2_with fail
  refine (toIntS_any l1 a1 c1 _ (HL1.out.later (Below.now d1 (by repeat (first | exact Below.refl _ _ | refine Below.drew ?_ | refine below_drewN ?_ _ | refine Below.alloc ?_ (by simp; try omega) _)))) (by omega)).mono ?_
  rintro e v2 ⟨ap1, cp1, rfl, ho, hb⟩
  have hc : Below v1.heap.size v1 v2 := Below.now (by repeat (first | exact Below.refl _ _ | refine Below.drew ?_ | refine below_drewN ?_ _ | refine Below.alloc ?_ (by simp; try omega) _)) hb
  have hsz := hc.size
  replace d1 := Below.now d1 hc
  replace ep0 := Below.now ep0 hc
  have HOp1 : Hid (v2.ownsRow v1.heap.size 3 1 (.slice ap1 l1.length cp1) l1.length (l1.map (Value.int .i64))) := owns_mono ho (by simp; try omega)
  have lop1 : Hid (v1.heap.size ≤ v2.heap.size) := hc.size
  clear ho hb hc hsz
  have ep1 := Below.refl v2.heap.size v2
  go_wp2_with fail
  refine (specIsNormal_any n0 l0 ap0 cp0 l1 ap1 cp1 _ ((owns_ints (l := l0) HOp0.out).later (Below.now ep0 (by repeat (first | exact Below.refl _ _ | refine Below.drew ?_ | refine below_drewN ?_ _ | refine Below.alloc ?_ (by simp; try omega) _)))) (by omega) ((owns_ints (l := l1) HOp1.out).later (Below.now ep1 (by repeat (first | exact Below.refl _ _ | refine Below.drew ?_ | refine below_drewN ?_ _ | refine Below.alloc ?_ (by simp; try omega) _)))) (by omega)).mono ?_
  rintro e v3 ⟨rfl, hb⟩
  have hc : Below v2.heap.size v2 v3 := Below.now (by repeat (first | exact Below.refl _ _ | refine Below.drew ?_ | refine below_drewN ?_ _ | refine Below.alloc ?_ (by simp; try omega) _)) hb
  have hsz := hc.size
  replace d1 := Below.now d1 hc
  replace ep0 := Below.now ep0 hc
  replace ep1 := Below.now ep1 hc
  clear HOp0 lop0 ep0
  clear HOp1 lop1 ep1
  clear hb hc hsz
  have sz3 : Hid (u0.heap.size ≤ v3.heap.size) := d1.size
  have d3 := Below.refl v3.heap.size v3
  go_wp2_with fail
  refine (toTable_any n0 l0 a0 c0 _ (HL0.out.later (Below.now d1 (by repeat (first | exact Below.refl _ _ | refine Below.drew ?_ | refine below_drewN ?_ _ | refine Below.alloc ?_ (by simp; try omega) _)))) (by omega)).mono ?_
  rintro e v4 ⟨ax0, cx0, rfl, ho, hb⟩
  have hc : Below v3.heap.size v3 v4 := Below.now (by repeat (first | exact Below.refl _ _ | refine Below.drew ?_ | refine below_drewN ?_ _ | refine Below.alloc ?_ (by simp; try omega) _)) hb
  have hsz := hc.size
  replace d1 := Below.now d1 hc
  replace d3 := Below.now d3 hc
  have HOx0 : Hid (v4.ownsRow v3.heap.size 3 1 (.slice ax0 l0.length cx0) l0.length (l0.map (Value.int .i64))) := owns_mono ho (by simp; try omega)
  have lox0 : Hid (v3.heap.size ≤ v4.heap.size) := hc.size
  clear ho hb hc hsz
  have ex0 := Below.refl v4.heap.size v4
  go_wp2_with fail
  refine (toIntS_any l1 a1 c1 _ (HL1.out.later (Below.now d1 (by repeat (first | exact Below.refl _ _ | refine Below.drew ?_ | refine below_drewN ?_ _ | refine Below.alloc ?_ (by simp; try omega) _)))) (by omega)).mono ?_
  rintro e v5 ⟨ax1, cx1, rfl, ho, hb⟩
  have y00 : v5.cell? ⟨v4.heap.size, 0, none⟩ = some (.int .i64 n0) := by rw [hb.cell (by simp; try omega)]; simp [go_sem]
  have y01 : v5.cell? ⟨v4.heap.size, 1, none⟩ = some (.slice ax0 l0.length cx0) := by rw [hb.cell (by simp; try omega)]; simp [go_sem]
  have hc : Below v4.heap.size v4 v5 := Below.now (by repeat (first | exact Below.refl _ _ | refine Below.drew ?_ | refine below_drewN ?_ _ | refine Below.alloc ?_ (by simp; try omega) _)) hb
  have hsz := hc.size
  replace d1 := Below.now d1 hc
  replace d3 := Below.now d3 hc
  replace ex0 := Below.now ex0 hc
  have HOx1 : Hid (v5.ownsRow v4.heap.size 3 1 (.slice ax1 l1.length cx1) l1.length (l1.map (Value.int .i64))) := owns_mono ho (by simp; try omega)
  have lox1 : Hid (v4.heap.size ≤ v5.heap.size) := hc.size
  clear ho hb hc hsz
  have ex1 := Below.refl v5.heap.size v5
  go_wp2_with fail
  refine (implIsNormal_any n0 l0 ax0 cx0 l1 ax1 cx1 _ ((owns_ints (l := l0) HOx0.out).later (Below.now ex0 (by repeat (first | exact Below.refl _ _ | refine Below.drew ?_ | refine below_drewN ?_ _ | refine Below.alloc ?_ (by simp; try omega) _)))) (by omega) (owns_cap HOx0.out) ((owns_ints (l := l1) HOx1.out).later (Below.now ex1 (by repeat (first | exact Below.refl _ _ | refine Below.drew ?_ | refine below_drewN ?_ _ | refine Below.alloc ?_ (by simp; try omega) _)))) (by omega)).mono ?_
  rintro e v6 ⟨rfl, hb⟩
  replace y00 := (hb.cell (World.block_lt_of_cell? _ _ y00)).trans y00
  replace y01 := (hb.cell (World.block_lt_of_cell? _ _ y01)).trans y01
  have hc : Below v5.heap.size v5 v6 := Below.now (by repeat (first | exact Below.refl _ _ | refine Below.drew ?_ | refine below_drewN ?_ _ | refine Below.alloc ?_ (by simp; try omega) _)) hb
  have hsz := hc.size
  replace d1 := Below.now d1 hc
  replace d3 := Below.now d3 hc
  replace ex0 := Below.now ex0 hc
  replace ex1 := Below.now ex1 hc
  clear hb hc hsz
  have d7 := Below.refl v6.heap.size v6
  have z00 : ∀ W, Below v6.heap.size v6 W → W.cell? ⟨v4.heap.size, 0, none⟩ = some (.int .i64 n0) := fun W hW => (hW.cell (World.block_lt_of_cell? _ _ y00)).trans y00
  have z01 : ∀ W, Below v6.heap.size v6 W → W.cell? ⟨v4.heap.size, 1, none⟩ = some (.slice ax0 l0.length cx0) := fun W hW => (hW.cell (World.block_lt_of_cell? _ _ y01)).trans y01
  clear y00 y01
  go_wp2_with fail
  have r0 := x00 _ d1
  have r1 := x01 _ d1
  have r2 := z00 _ d7
  have r3 := z01 _ d7
  have Gx00 := Lib.hid x00
  have Gx01 := Lib.hid x01
  have Gz00 := Lib.hid z00
  have Gz01 := Lib.hid z01
  clear x00 x01 z00 z01
  have Gd1 := Lib.hid d1
  have Gd3 := Lib.hid d3
  have Gex0 := Lib.hid ex0
  have Gex1 := Lib.hid ex1
  have Gd7 := Lib.hid d7
  clear d1 d3 ex0 ex1 d7
  go_region_held3 (fun w' => w'.cell? ⟨w.heap.size, 0, none⟩ = some (.int .i64 n0) ∧ w'.cell? ⟨w.heap.size, 1, none⟩ = some (.slice a0 l0.length c0) ∧ w'.cell? ⟨v4.heap.size, 0, none⟩ = some (.int .i64 n0) ∧ w'.cell? ⟨v4.heap.size, 1, none⟩ = some (.slice ax0 l0.length cx0)) (go_keep) (first | (go_at_call 19; refine (toTable_any n0 l0 a0 c0 _ (HL0.out.later (Below.now Gd1.out (Below.drew (Below.refl _ _)))) (by omega)).mono ?_; rintro e v7 ⟨aq, cq, rfl, ho, hb⟩; have k1 : Below v6.heap.size v6 v7 := Below.now (Below.drew (Below.refl _ _)) hb; have s0 := (k1.cell (World.block_lt_of_cell? v6 _ r0)).trans r0; have s1 := (k1.cell (World.block_lt_of_cell? v6 _ r1)).trans r1; have s2 := (k1.cell (World.block_lt_of_cell? v6 _ r2)).trans r2; have s3 := (k1.cell (World.block_lt_of_cell? v6 _ r3)).trans r3; have HLt := Lib.hid (owns_ints (l := l0) ho); clear ho hb) | (go_at_call 21; refine (eqTable_same n0 l0 ax0 aq cx0 cq _ ((owns_ints (l := l0) HOx0.out).later (Below.now Gex0.out k1)) HLt.out (by omega)).mono ?_; rintro e v8 ⟨rfl, hb⟩; have k2 : Below v6.heap.size v6 v8 := Below.now k1 hb; have t0 := (k2.cell (World.block_lt_of_cell? v6 _ r0)).trans r0; have t1 := (k2.cell (World.block_lt_of_cell? v6 _ r1)).trans r1; have t2 := (k2.cell (World.block_lt_of_cell? v6 _ r2)).trans r2; have t3 := (k2.cell (World.block_lt_of_cell? v6 _ r3)).trans r3; clear hb))
  have hc := k2
  have d1 := Below.now Gd1.out hc
  have d3 := Below.now Gd3.out hc
  have ex0 := Below.now Gex0.out hc
  have ex1 := Below.now Gex1.out hc
  have d7 := Below.now Gd7.out hc
  have x00 := Gx00.out
  have x01 := Gx01.out
  have z00 := Gz00.out
  have z01 := Gz01.out
  clear r0 r1 r2 r3 s0 s1 s2 s3 t0 t1 t2 t3 k1 k2 hc HLt Gd1 Gd3 Gex0 Gex1 Gd7 Gx00 Gx01 Gz00 Gz01
  go_wp2_with fail
  refine (toIntS_any l1 a1 c1 _ (HL1.out.later (Below.now d1 (by repeat (first | exact Below.refl _ _ | refine Below.drew ?_ | refine below_drewN ?_ _ | refine Below.alloc ?_ (by simp; try omega) _)))) (by omega)).mono ?_
  rintro e v9 ⟨at1, ct1, rfl, ho, hb⟩
  have hc : Below v8.heap.size v8 v9 := Below.now (by repeat (first | exact Below.refl _ _ | refine Below.drew ?_ | refine below_drewN ?_ _ | refine Below.alloc ?_ (by simp; try omega) _)) hb
  have hsz := hc.size
  replace d1 := Below.now d1 hc
  replace d3 := Below.now d3 hc
  replace ex0 := Below.now ex0 hc
  replace ex1 := Below.now ex1 hc
  replace d7 := Below.now d7 hc
  have HOt1 : Hid (v9.ownsRow v8.heap.size 3 1 (.slice at1 l1.length ct1) l1.length (l1.map (Value.int .i64))) := owns_mono ho (by simp; try omega)
  have lot1 : Hid (v8.heap.size ≤ v9.heap.size) := hc.size
  clear ho hb hc hsz
  go_wp2_with fail
  refine (eqIntS_same l1 ax1 at1 _ _ _ ((owns_ints (l := l1) HOx1.out).later (Below.now ex1 (by repeat (first | exact Below.refl _ _ | refine Below.drew ?_ | refine below_drewN ?_ _ | refine Below.alloc ?_ (by simp; try omega) _)))) ((owns_ints (l := l1) HOt1.out).later (by repeat (first | exact Below.refl _ _ | refine Below.drew ?_ | refine below_drewN ?_ _ | refine Below.alloc ?_ (by simp; try omega) _))) (by omega)).mono ?_
  rintro e v10 ⟨rfl, hb⟩
  have hc : Below v9.heap.size v9 v10 := Below.now (by repeat (first | exact Below.refl _ _ | refine Below.drew ?_ | refine below_drewN ?_ _ | refine Below.alloc ?_ (by simp; try omega) _)) hb
  have hsz := hc.size
  replace d1 := Below.now d1 hc
  replace d3 := Below.now d3 hc
  replace ex0 := Below.now ex0 hc
  replace ex1 := Below.now ex1 hc
  replace d7 := Below.now d7 hc
  clear hb hc hsz HOt1 lot1
  go_wp2_with fail
  go_ret
  exact ⟨rfl, Below.now hbel.out d1⟩
theorem walk (n0 : Int) (l0 : List Int) (a0 : Option Addr) (c0 : Nat) (l1 : List Int) (a1 : Option Addr) (c1 : Nat) (w : World) (hl0 : IntsIn w a0 l0) (hn0 : l0.length ≤ 9223372036854775807) (hl1 : IntsIn w a1 l1) (hn1 : l1.length ≤ 9223372036854775807) :
    Calls Try.prog 13 #[.agg #[.int .i64 n0, .slice a0 l0.length c0], .slice a1 l1.length c1] w fun e w' => e = .returned (.bool true) ∧ Below w.heap.size w w' := by
  by_cases hs1 : (1048576 : Int) < (l1.length : Int)
  · exact walkBig1 n0 l0 a0 c0 l1 a1 c1 w hl0 hn0 hl1 hn1  hs1
  by_cases hs0 : (1048576 : Int) < (l0.length : Int)
  · exact walkBig0 n0 l0 a0 c0 l1 a1 c1 w hl0 hn0 hl1 hn1 hs1 hs0
  exact walkSmall n0 l0 a0 c0 l1 a1 c1 w hl0 hn0 hl1 hn1 hs1 hs0
end Go.Proofs.Ytkkffaiacipibaa.fnExactIsNormal
