/-
  The walk of 'FnExactCosetsOf': CosetsOf of the program and of the reference, called on copies of the arguments.
-/
import Derived.Test.YtkkffaiacipibaaCosSp
import Derived.Test.YtkkffaiacipibaaRng
import Derived.Test.YtkkffaiacipibaaTabHelp
import Derived.Test.YtkkffaiacipibaaLift
import Derived.Deep.RegionHeld3
namespace Go.Proofs.Ytkkffaiacipibaa.fnExactCosetsOf
open Go.ChangeShapes Go.WideShapes Go.ChangeAt Go.RowKit Go.Joins
open Go.ChangeMaps (open_string shut_string)
set_option linter.unusedVariables false
set_option maxHeartbeats 1000000 in
theorem walkBig1 (n0 : Int) (l0 : List Int) (a0 : Option Addr) (c0 : Nat) (l1 : List Int) (a1 : Option Addr) (c1 : Nat) (w : World) (hl0 : IntsIn w a0 l0) (hn0 : l0.length ≤ 9223372036854775807) (hl1 : IntsIn w a1 l1) (hn1 : l1.length ≤ 9223372036854775807) (hs1 : (1048576 : Int) < (l1.length : Int)) :
    Calls Try.prog 16 #[.agg #[.int .i64 n0, .slice a0 l0.length c0], .slice a1 l1.length c1] w fun e w' => e = .returned (.bool true) ∧ Below w.heap.size w w' := by
  clear hl0
  clear hl1
  go_enter Try.func16, Try.ntmps16
  go_wp2_with fail
  go_ret
  exact ⟨rfl, (by repeat (first | exact Below.refl _ _ | refine Below.drew ?_ | refine below_drewN ?_ _ | refine Below.alloc ?_ (by simp; try omega) _))⟩
set_option maxHeartbeats 1000000 in
theorem walkBig0 (n0 : Int) (l0 : List Int) (a0 : Option Addr) (c0 : Nat) (l1 : List Int) (a1 : Option Addr) (c1 : Nat) (w : World) (hl0 : IntsIn w a0 l0) (hn0 : l0.length ≤ 9223372036854775807) (hl1 : IntsIn w a1 l1) (hn1 : l1.length ≤ 9223372036854775807) (hs1 : ¬ (1048576 : Int) < (l1.length : Int)) (hs0 : (1048576 : Int) < (l0.length : Int)) :
    Calls Try.prog 16 #[.agg #[.int .i64 n0, .slice a0 l0.length c0], .slice a1 l1.length c1] w fun e w' => e = .returned (.bool true) ∧ Below w.heap.size w w' := by
  have HS0 := fun w => szTable_any n0 l0.length c0 a0 1048576 w (by omega) (by omega) (by omega)
  rw [if_pos hs0] at HS0
  have HT0 := fun w => Lib.hid (HS0 w)
  clear HS0
  clear hl0
  clear hl1
  go_enter Try.func16, Try.ntmps16
  go_wp2_with fail
  refine (HT0 _).out.mono ?_
  rintro e u0 ⟨rfl, hb0⟩
  have hk0 : Below w.heap.size w u0 := Below.now (by repeat (first | exact Below.refl _ _ | refine Below.drew ?_ | refine below_drewN ?_ _ | refine Below.alloc ?_ (by simp; try omega) _)) hb0
  clear hb0
  go_wp2_with fail
  go_ret
  exact ⟨rfl, hk0⟩
set_option maxRecDepth 100000 in
set_option maxHeartbeats 2000000 in
theorem walkSmall (n0 : Int) (l0 : List Int) (a0 : Option Addr) (c0 : Nat) (l1 : List Int) (a1 : Option Addr) (c1 : Nat) (w : World) (hl0 : IntsIn w a0 l0) (hn0 : l0.length ≤ 9223372036854775807) (hl1 : IntsIn w a1 l1) (hn1 : l1.length ≤ 9223372036854775807) (hs1 : ¬ (1048576 : Int) < (l1.length : Int)) (hs0 : ¬ (1048576 : Int) < (l0.length : Int)) :
    Calls Try.prog 16 #[.agg #[.int .i64 n0, .slice a0 l0.length c0], .slice a1 l1.length c1] w fun e w' => e = .returned (.bool true) ∧ Below w.heap.size w w' := by
  have HS0 := fun w => szTable_any n0 l0.length c0 a0 1048576 w (by omega) (by omega) (by omega)
  rw [if_neg hs0] at HS0
  have HT0 := fun w => Lib.hid (HS0 w)
  clear HS0
  have hz1 : l1.length ≤ 1048576 := by omega
  have hz0 : l0.length ≤ 1048576 := by omega
  have HL0 := Lib.hid hl0
  have HL1 := Lib.hid hl1
  clear hl0
  clear hl1
  clear hs1 hs0
  go_enter Try.func16, Try.ntmps16
  go_wp2_with fail
  refine (HT0 _).out.mono ?_
  rintro e u0 ⟨rfl, hb0⟩
  have hk0 : Below w.heap.size w u0 := Below.now (by repeat (first | exact Below.refl _ _ | refine Below.drew ?_ | refine below_drewN ?_ _ | refine Below.alloc ?_ (by simp; try omega) _)) hb0
  have q00 : u0.cell? ⟨w.heap.size, 0, none⟩ = some (.int .i64 n0) := by rw [hb0.cell (by simp; try omega)]; simp [go_sem]
  have q01 : u0.cell? ⟨w.heap.size, 1, none⟩ = some (.slice a0 l0.length c0) := by rw [hb0.cell (by simp; try omega)]; simp [go_sem]
  clear hb0
  have hbel := Lib.hid hk0
  clear hk0
  have x00 : ∀ W, Below u0.heap.size u0 W → W.cell? ⟨w.heap.size, 0, none⟩ = some (.int .i64 n0) := fun W hW => (hW.cell (World.block_lt_of_cell? _ _ q00)).trans q00
  have x01 : ∀ W, Below u0.heap.size u0 W → W.cell? ⟨w.heap.size, 1, none⟩ = some (.slice a0 l0.length c0) := fun W hW => (hW.cell (World.block_lt_of_cell? _ _ q01)).trans q01
  clear q00 q01
  replace HL0 := Lib.hid (HL0.out.later hbel.out)
  replace HL1 := Lib.hid (HL1.out.later hbel.out)
  have d1 := Below.refl u0.heap.size u0
  go_wp2_with fail
  refine (toTable_any n0 l0 a0 c0 _ (HL0.out.later (Below.now d1 (by repeat (first | exact Below.refl _ _ | refine Below.drew ?_ | refine below_drewN ?_ _ | refine Below.alloc ?_ (by simp; try omega) _)))) (by omega)).mono ?_
  rintro e v1 ⟨ap0, cp0, rfl, ho, hb⟩
  have hc : Below u0.heap.size u0 v1 := Below.now (by repeat (first | exact Below.refl _ _ | refine Below.drew ?_ | refine below_drewN ?_ _ | refine Below.alloc ?_ (by simp; try omega) _)) hb
  have hsz := hc.size
  replace d1 := Below.now d1 hc
  have HOp0 : Hid (v1.ownsRow u0.heap.size 3 1 (.slice ap0 l0.length cp0) l0.length (l0.map (Value.int .i64))) := owns_mono ho (by simp; try omega)
  have lop0 : Hid (u0.heap.size ≤ v1.heap.size) := hc.size
  clear ho hb hc hsz
  have ep0 := Below.refl v1.heap.size v1
  go_wp2_with fail
  refine (toIntS_any l1 a1 c1 _ (HL1.out.later (Below.now d1 (by repeat (first | exact Below.refl _ _ | refine Below.drew ?_ | refine below_drewN ?_ _ | refine Below.alloc ?_ (by simp; try omega) _)))) (by omega)).mono ?_
  rintro e v2 ⟨ap1, cp1, rfl, ho, hb⟩
  have hc : Below v1.heap.size v1 v2 := Below.now (by repeat (first | exact Below.refl _ _ | refine Below.drew ?_ | refine below_drewN ?_ _ | refine Below.alloc ?_ (by simp; try omega) _)) hb
  have hsz := hc.size
  replace d1 := Below.now d1 hc
  replace ep0 := Below.now ep0 hc
  have HOp1 : Hid (v2.ownsRow v1.heap.size 3 1 (.slice ap1 l1.length cp1) l1.length (l1.map (Value.int .i64))) := owns_mono ho (by simp; try omega)
  have lop1 : Hid (v1.heap.size ≤ v2.heap.size) := hc.size
  clear ho hb hc hsz
  have ep1 := Below.refl v2.heap.size v2
  go_wp2_with fail
  refine (specCosetsOf_any n0 l0 ap0 cp0 l1 ap1 cp1 _ ((owns_ints (l := l0) HOp0.out).later (Below.now ep0 (by repeat (first | exact Below.refl _ _ | refine Below.drew ?_ | refine below_drewN ?_ _ | refine Below.alloc ?_ (by simp; try omega) _)))) (by omega) ((owns_ints (l := l1) HOp1.out).later (Below.now ep1 (by repeat (first | exact Below.refl _ _ | refine Below.drew ?_ | refine below_drewN ?_ _ | refine Below.alloc ?_ (by simp; try omega) _)))) (by omega)).mono ?_
  rintro e v3 ⟨aw, cw, rfl, ho, hb⟩
  have hc : Below v2.heap.size v2 v3 := Below.now (by repeat (first | exact Below.refl _ _ | refine Below.drew ?_ | refine below_drewN ?_ _ | refine Below.alloc ?_ (by simp; try omega) _)) hb
  have hsz := hc.size
  replace d1 := Below.now d1 hc
  replace ep0 := Below.now ep0 hc
  replace ep1 := Below.now ep1 hc
  have HW : Hid (IntsIn v3 aw _) := owns_ints (l := _) ho
  clear ho
  clear HOp0 lop0 ep0
  clear HOp1 lop1 ep1
  clear hb hc hsz
  have sz3 : Hid (u0.heap.size ≤ v3.heap.size) := d1.size
  have d3 := Below.refl v3.heap.size v3
  go_wp2_with fail
  refine (toTable_any n0 l0 a0 c0 _ (HL0.out.later (Below.now d1 (by repeat (first | exact Below.refl _ _ | refine Below.drew ?_ | refine below_drewN ?_ _ | refine Below.alloc ?_ (by simp; try omega) _)))) (by omega)).mono ?_
  rintro e v4 ⟨ax0, cx0, rfl, ho, hb⟩
  have hc : Below v3.heap.size v3 v4 := Below.now (by repeat (first | exact Below.refl _ _ | refine Below.drew ?_ | refine below_drewN ?_ _ | refine Below.alloc ?_ (by simp; try omega) _)) hb
  have hsz := hc.size
  replace d1 := Below.now d1 hc
  replace d3 := Below.now d3 hc
  have HOx0 : Hid (v4.ownsRow v3.heap.size 3 1 (.slice ax0 l0.length cx0) l0.length (l0.map (Value.int .i64))) := owns_mono ho (by simp; try omega)
  have lox0 : Hid (v3.heap.size ≤ v4.heap.size) := hc.size
  clear ho hb hc hsz
  have ex0 := Below.refl v4.heap.size v4
  go_wp2_with fail
  refine (toIntS_any l1 a1 c1 _ (HL1.out.later (Below.now d1 (by repeat (first | exact Below.refl _ _ | refine Below.drew ?_ | refine below_drewN ?_ _ | refine Below.alloc ?_ (by simp; try omega) _)))) (by omega)).mono ?_
  rintro e v5 ⟨ax1, cx1, rfl, ho, hb⟩
  have y00 : v5.cell? ⟨v4.heap.size, 0, none⟩ = some (.int .i64 n0) := by rw [hb.cell (by simp; try omega)]; simp [go_sem]
  have y01 : v5.cell? ⟨v4.heap.size, 1, none⟩ = some (.slice ax0 l0.length cx0) := by rw [hb.cell (by simp; try omega)]; simp [go_sem]
  have hc : Below v4.heap.size v4 v5 := Below.now (by repeat (first | exact Below.refl _ _ | refine Below.drew ?_ | refine below_drewN ?_ _ | refine Below.alloc ?_ (by simp; try omega) _)) hb
  have hsz := hc.size
  replace d1 := Below.now d1 hc
  replace d3 := Below.now d3 hc
  replace ex0 := Below.now ex0 hc
  have HOx1 : Hid (v5.ownsRow v4.heap.size 3 1 (.slice ax1 l1.length cx1) l1.length (l1.map (Value.int .i64))) := owns_mono ho (by simp; try omega)
  have lox1 : Hid (v4.heap.size ≤ v5.heap.size) := hc.size
  clear ho hb hc hsz
  have ex1 := Below.refl v5.heap.size v5
  go_wp2_with fail
  refine (implCosetsOf_any n0 l0 ax0 cx0 l1 ax1 cx1 _ ((owns_ints (l := l0) HOx0.out).later (Below.now ex0 (by repeat (first | exact Below.refl _ _ | refine Below.drew ?_ | refine below_drewN ?_ _ | refine Below.alloc ?_ (by simp; try omega) _)))) (by omega) (owns_cap HOx0.out) ((owns_ints (l := l1) HOx1.out).later (Below.now ex1 (by repeat (first | exact Below.refl _ _ | refine Below.drew ?_ | refine below_drewN ?_ _ | refine Below.alloc ?_ (by simp; try omega) _)))) (by omega)).mono ?_
  rintro e v6 ⟨ag, cg, rfl, ho, hb⟩
  replace y00 := (hb.cell (World.block_lt_of_cell? _ _ y00)).trans y00
  replace y01 := (hb.cell (World.block_lt_of_cell? _ _ y01)).trans y01
  have hc : Below v5.heap.size v5 v6 := Below.now (by repeat (first | exact Below.refl _ _ | refine Below.drew ?_ | refine below_drewN ?_ _ | refine Below.alloc ?_ (by simp; try omega) _)) hb
  have hsz := hc.size
  replace d1 := Below.now d1 hc
  replace d3 := Below.now d3 hc
  replace ex0 := Below.now ex0 hc
  replace ex1 := Below.now ex1 hc
  have HOg : Hid (v6.ownsRow v5.heap.size 3 1 (.slice ag _ cg) _ _) := owns_mono ho (by simp; try omega)
  clear ho
  clear hb hc hsz
  have d7 := Below.refl v6.heap.size v6
  have z00 : ∀ W, Below v6.heap.size v6 W → W.cell? ⟨v4.heap.size, 0, none⟩ = some (.int .i64 n0) := fun W hW => (hW.cell (World.block_lt_of_cell? _ _ y00)).trans y00
  have z01 : ∀ W, Below v6.heap.size v6 W → W.cell? ⟨v4.heap.size, 1, none⟩ = some (.slice ax0 l0.length cx0) := fun W hW => (hW.cell (World.block_lt_of_cell? _ _ y01)).trans y01
  clear y00 y01
  go_wp2_with fail
  refine (eqIntS_same _ ag aw _ _ _ ((owns_ints (l := _) HOg.out).later (Below.now d7 (by repeat (first | exact Below.refl _ _ | refine Below.drew ?_ | refine below_drewN ?_ _ | refine Below.alloc ?_ (by simp; try omega) _)))) (HW.out.later (Below.now d3 (by repeat (first | exact Below.refl _ _ | refine Below.drew ?_ | refine below_drewN ?_ _ | refine Below.alloc ?_ (by simp; try omega) _)))) (by have := cosF_len n0 l0 l1; omega)).mono ?_
  rintro e v7 ⟨rfl, hb⟩
  have hc : Below v6.heap.size v6 v7 := Below.now (by repeat (first | exact Below.refl _ _ | refine Below.drew ?_ | refine below_drewN ?_ _ | refine Below.alloc ?_ (by simp; try omega) _)) hb
  have hsz := hc.size
  replace d1 := Below.now d1 hc
  replace d3 := Below.now d3 hc
  replace ex0 := Below.now ex0 hc
  replace ex1 := Below.now ex1 hc
  replace d7 := Below.now d7 hc
  clear hb hc hsz
  go_wp2_with fail
  have r0 := x00 _ d1
  have r1 := x01 _ d1
  have r2 := z00 _ d7
  have r3 := z01 _ d7
  have Gx00 := Lib.hid x00
  have Gx01 := Lib.hid x01
  have Gz00 := Lib.hid z00
  have Gz01 := Lib.hid z01
  clear x00 x01 z00 z01
  have Gd1 := Lib.hid d1
  have Gd3 := Lib.hid d3
  have Gex0 := Lib.hid ex0
  have Gex1 := Lib.hid ex1
  have Gd7 := Lib.hid d7
  clear d1 d3 ex0 ex1 d7
  go_region_held3 (fun w' => w'.cell? ⟨w.heap.size, 0, none⟩ = some (.int .i64 n0) ∧ w'.cell? ⟨w.heap.size, 1, none⟩ = some (.slice a0 l0.length c0) ∧ w'.cell? ⟨v4.heap.size, 0, none⟩ = some (.int .i64 n0) ∧ w'.cell? ⟨v4.heap.size, 1, none⟩ = some (.slice ax0 l0.length cx0)) (go_keep) (first | (go_at_call 19; refine (toTable_any n0 l0 a0 c0 _ (HL0.out.later (Below.now Gd1.out (Below.drew (Below.refl _ _)))) (by omega)).mono ?_; rintro e v8 ⟨aq, cq, rfl, ho, hb⟩; have k1 : Below v7.heap.size v7 v8 := Below.now (Below.drew (Below.refl _ _)) hb; have s0 := (k1.cell (World.block_lt_of_cell? v7 _ r0)).trans r0; have s1 := (k1.cell (World.block_lt_of_cell? v7 _ r1)).trans r1; have s2 := (k1.cell (World.block_lt_of_cell? v7 _ r2)).trans r2; have s3 := (k1.cell (World.block_lt_of_cell? v7 _ r3)).trans r3; have HLt := Lib.hid (owns_ints (l := l0) ho); clear ho hb) | (go_at_call 21; refine (eqTable_same n0 l0 ax0 aq cx0 cq _ ((owns_ints (l := l0) HOx0.out).later (Below.now Gex0.out k1)) HLt.out (by omega)).mono ?_; rintro e v9 ⟨rfl, hb⟩; have k2 : Below v7.heap.size v7 v9 := Below.now k1 hb; have t0 := (k2.cell (World.block_lt_of_cell? v7 _ r0)).trans r0; have t1 := (k2.cell (World.block_lt_of_cell? v7 _ r1)).trans r1; have t2 := (k2.cell (World.block_lt_of_cell? v7 _ r2)).trans r2; have t3 := (k2.cell (World.block_lt_of_cell? v7 _ r3)).trans r3; clear hb))
  have hc := k2
  have d1 := Below.now Gd1.out hc
  have d3 := Below.now Gd3.out hc
  have ex0 := Below.now Gex0.out hc
  have ex1 := Below.now Gex1.out hc
  have d7 := Below.now Gd7.out hc
  have x00 := Gx00.out
  have x01 := Gx01.out
  have z00 := Gz00.out
  have z01 := Gz01.out
  clear r0 r1 r2 r3 s0 s1 s2 s3 t0 t1 t2 t3 k1 k2 hc HLt Gd1 Gd3 Gex0 Gex1 Gd7 Gx00 Gx01 Gz00 Gz01
  go_wp2_with fail
  refine (toIntS_any l1 a1 c1 _ (HL1.out.later (Below.now d1 (by repeat (first | exact Below.refl _ _ | refine Below.drew ?_ | refine below_drewN ?_ _ | refine Below.alloc ?_ (by simp; try omega) _)))) (by omega)).mono ?_
  rintro e v10 ⟨at1, ct1, rfl, ho, hb⟩
  have hc : Below v9.heap.size v9 v10 := Below.now (by repeat (first | exact Below.refl _ _ | refine Below.drew ?_ | refine below_drewN ?_ _ | refine Below.alloc ?_ (by simp; try omega) _)) hb
  have hsz := hc.size
  replace d1 := Below.now d1 hc
  replace d3 := Below.now d3 hc
  replace ex0 := Below.now ex0 hc
  replace ex1 := Below.now ex1 hc
  replace d7 := Below.now d7 hc
  have HOt1 : Hid (v10.ownsRow v9.heap.size 3 1 (.slice at1 l1.length ct1) l1.length (l1.map (Value.int .i64))) := owns_mono ho (by simp; try omega)
  have lot1 : Hid (v9.heap.size ≤ v10.heap.size) := hc.size
  clear ho hb hc hsz
  go_wp2_with fail
  refine (eqIntS_same l1 ax1 at1 _ _ _ ((owns_ints (l := l1) HOx1.out).later (Below.now ex1 (by repeat (first | exact Below.refl _ _ | refine Below.drew ?_ | refine below_drewN ?_ _ | refine Below.alloc ?_ (by simp; try omega) _)))) ((owns_ints (l := l1) HOt1.out).later (by repeat (first | exact Below.refl _ _ | refine Below.drew ?_ | refine below_drewN ?_ _ | refine Below.alloc ?_ (by simp; try omega) _))) (by omega)).mono ?_
  rintro e v11 ⟨rfl, hb⟩
  have hc : Below v10.heap.size v10 v11 := Below.now (by repeat (first | exact Below.refl _ _ | refine Below.drew ?_ | refine below_drewN ?_ _ | refine Below.alloc ?_ (by simp; try omega) _)) hb
  have hsz := hc.size
  replace d1 := Below.now d1 hc
  replace d3 := Below.now d3 hc
  replace ex0 := Below.now ex0 hc
  replace ex1 := Below.now ex1 hc
  replace d7 := Below.now d7 hc
  clear hb hc hsz HOt1 lot1
  go_wp2_with fail
  have M0 := Lib.hid (owns_later HOx0.out ex0)
  have M1 := Lib.hid (owns_later HOx1.out ex1)
  have Mg := Lib.hid (owns_later HOg.out d7)
  have sz1 := d3.size
  clear ex0
  clear ex1
  refine (markTable_any n0 l0.length (1) cx0 _ ax0 _ _ (owns_later M0.out (by repeat (first | exact Below.refl _ _ | refine Below.drew ?_ | refine below_drewN ?_ _ | refine Below.alloc ?_ (by simp; try omega) _))) (by omega) (by omega)).mono ?_
  rintro e v12 ⟨rfl, hr⟩
  have hr2 : OnlyRow v11 ax0 v12 := hr
  have rg0 := owns_range HOx0.out
  have bd1 := d1.size
  have bd3 := d3.size
  have lq0 := lox0.out
  have lq3 := sz3.out
  replace d1 := below_only d1 hr2 bd1 (fun x hx => by have := (rg0 x hx).1; omega)
  replace d3 := below_only d3 hr2 bd3 (fun x hx => by have := (rg0 x hx).1; omega)
  have rn := owns_range HOx1.out
  have lq1 := lox1.out
  replace M1 := Lib.hid (owns_only M1.out hr2 (fun x y hx hy => by have := rn x hx; have := rg0 y hy; omega))
  clear rn
  have rn := owns_range HOg.out
  replace Mg := Lib.hid (owns_only Mg.out hr2 (fun x y hx hy => by have := rn x hx; have := rg0 y hy; omega))
  clear hr hr2 rn
  go_wp2_with fail
  refine (markIntS_any (1 + l0.length) l1.length cx1 _ ax1 _ _ (owns_later M1.out (by repeat (first | exact Below.refl _ _ | refine Below.drew ?_ | refine below_drewN ?_ _ | refine Below.alloc ?_ (by simp; try omega) _))) (by omega) (by omega)).mono ?_
  rintro e v13 ⟨rfl, _, hr⟩
  have hr2 : OnlyRow v12 ax1 v13 := hr
  have rg1 := owns_range HOx1.out
  have bd1 := d1.size
  have bd3 := d3.size
  have lq0 := lox1.out
  have lq3 := sz3.out
  replace d1 := below_only d1 hr2 bd1 (fun x hx => by have := (rg1 x hx).1; omega)
  replace d3 := below_only d3 hr2 bd3 (fun x hx => by have := (rg1 x hx).1; omega)
  have rn := owns_range HOg.out
  replace Mg := Lib.hid (owns_only Mg.out hr2 (fun x y hx hy => by have := rn x hx; have := rg1 y hy; omega))
  clear hr hr2 rn
  go_wp2_with fail
  clear d7
  have d9 := Below.refl v13.heap.size v13
  refine (eqIntS_same _ ag aw _ _ _ ((owns_ints (l := _) Mg.out).later (Below.now d9 (by repeat (first | exact Below.refl _ _ | refine Below.drew ?_ | refine below_drewN ?_ _ | refine Below.alloc ?_ (by simp; try omega) _)))) (HW.out.later (Below.now d3 (by repeat (first | exact Below.refl _ _ | refine Below.drew ?_ | refine below_drewN ?_ _ | refine Below.alloc ?_ (by simp; try omega) _)))) (by have := cosF_len n0 l0 l1; omega)).mono ?_
  rintro e v14 ⟨rfl, hb⟩
  have hc : Below v13.heap.size v13 v14 := Below.now (by repeat (first | exact Below.refl _ _ | refine Below.drew ?_ | refine below_drewN ?_ _ | refine Below.alloc ?_ (by simp; try omega) _)) hb
  have hsz := hc.size
  replace d1 := Below.now d1 hc
  replace d3 := Below.now d3 hc
  replace d9 := Below.now d9 hc
  clear hb hc hsz
  go_wp2_with fail
  refine (markIntS_any 1 _ cg _ ag _ _ (owns_later Mg.out (Below.now d9 (by repeat (first | exact Below.refl _ _ | refine Below.drew ?_ | refine below_drewN ?_ _ | refine Below.alloc ?_ (by simp; try omega) _)))) (by omega) (by have := cosF_len n0 l0 l1; omega)).mono ?_
  rintro e v15 ⟨rfl, hm, hr⟩
  have rn := owns_range HOg.out
  have lq3 := sz3.out
  have fd1 := d1.size
  have fd3 := d3.size
  replace d1 := below_only d1 hr fd1 (fun x hx => by have := (rn x hx).1; omega)
  replace d3 := below_only d3 hr fd3 (fun x hx => by have := (rn x hx).1; omega)
  have HM := Lib.hid (owns_ints (l := _) hm)
  clear hm hr d9
  have d9 := Below.refl v15.heap.size v15
  go_wp2_with fail
  refine (heldIntS_any 1 _ cg ag _ (HM.out.later (Below.now d9 (by repeat (first | exact Below.refl _ _ | refine Below.drew ?_ | refine below_drewN ?_ _ | refine Below.alloc ?_ (by simp; try omega) _)))) (by omega) (by have := cosF_len n0 l0 l1; omega)).mono ?_
  rintro e w' ⟨rfl, rfl⟩
  go_wp2_with fail
  refine (toTable_any n0 l0 a0 c0 _ (HL0.out.later (Below.now d1 (by repeat (first | exact Below.refl _ _ | refine Below.drew ?_ | refine below_drewN ?_ _ | refine Below.alloc ?_ (by simp; try omega) _)))) (by omega)).mono ?_
  rintro e v16 ⟨ah0, ch0, rfl, ho, hb⟩
  have hc : Below v15.heap.size v15 v16 := Below.now (by repeat (first | exact Below.refl _ _ | refine Below.drew ?_ | refine below_drewN ?_ _ | refine Below.alloc ?_ (by simp; try omega) _)) hb
  have hsz := hc.size
  replace d1 := Below.now d1 hc
  replace d3 := Below.now d3 hc
  replace d9 := Below.now d9 hc
  have HOh0 : Hid (v16.ownsRow v15.heap.size 3 1 (.slice ah0 l0.length ch0) l0.length (l0.map (Value.int .i64))) := owns_mono ho (by simp; try omega)
  have loh0 : Hid (v15.heap.size ≤ v16.heap.size) := hc.size
  clear ho hb hc hsz
  have eh0 := Below.refl v16.heap.size v16
  go_wp2_with fail
  refine (toIntS_any l1 a1 c1 _ (HL1.out.later (Below.now d1 (by repeat (first | exact Below.refl _ _ | refine Below.drew ?_ | refine below_drewN ?_ _ | refine Below.alloc ?_ (by simp; try omega) _)))) (by omega)).mono ?_
  rintro e v17 ⟨ah1, ch1, rfl, ho, hb⟩
  have hc : Below v16.heap.size v16 v17 := Below.now (by repeat (first | exact Below.refl _ _ | refine Below.drew ?_ | refine below_drewN ?_ _ | refine Below.alloc ?_ (by simp; try omega) _)) hb
  have hsz := hc.size
  replace d1 := Below.now d1 hc
  replace d3 := Below.now d3 hc
  replace d9 := Below.now d9 hc
  replace eh0 := Below.now eh0 hc
  have HOh1 : Hid (v17.ownsRow v16.heap.size 3 1 (.slice ah1 l1.length ch1) l1.length (l1.map (Value.int .i64))) := owns_mono ho (by simp; try omega)
  have loh1 : Hid (v16.heap.size ≤ v17.heap.size) := hc.size
  clear ho hb hc hsz
  have eh1 := Below.refl v17.heap.size v17
  go_wp2_with fail
  refine (implCosetsOf_any n0 l0 ah0 ch0 l1 ah1 ch1 _ ((owns_ints (l := l0) HOh0.out).later (Below.now eh0 (by repeat (first | exact Below.refl _ _ | refine Below.drew ?_ | refine below_drewN ?_ _ | refine Below.alloc ?_ (by simp; try omega) _)))) (by omega) (owns_cap HOh0.out) ((owns_ints (l := l1) HOh1.out).later (Below.now eh1 (by repeat (first | exact Below.refl _ _ | refine Below.drew ?_ | refine below_drewN ?_ _ | refine Below.alloc ?_ (by simp; try omega) _)))) (by omega)).mono ?_
  rintro e v18 ⟨ah, ch, rfl, ho, hb⟩
  have hc : Below v17.heap.size v17 v18 := Below.now (by repeat (first | exact Below.refl _ _ | refine Below.drew ?_ | refine below_drewN ?_ _ | refine Below.alloc ?_ (by simp; try omega) _)) hb
  have hsz := hc.size
  replace d1 := Below.now d1 hc
  replace d3 := Below.now d3 hc
  replace d9 := Below.now d9 hc
  replace eh0 := Below.now eh0 hc
  replace eh1 := Below.now eh1 hc
  have HH : Hid (IntsIn v18 ah _) := owns_ints (l := _) ho
  clear ho hb hc hsz
  have d11 := Below.refl v18.heap.size v18
  go_wp2_with fail
  refine (eqIntS_same _ ah aw _ _ _ (HH.out.later (Below.now d11 (by repeat (first | exact Below.refl _ _ | refine Below.drew ?_ | refine below_drewN ?_ _ | refine Below.alloc ?_ (by simp; try omega) _)))) (HW.out.later (Below.now d3 (by repeat (first | exact Below.refl _ _ | refine Below.drew ?_ | refine below_drewN ?_ _ | refine Below.alloc ?_ (by simp; try omega) _)))) (by have := cosF_len n0 l0 l1; omega)).mono ?_
  rintro e v19 ⟨rfl, hb⟩
  have hc : Below v18.heap.size v18 v19 := Below.now (by repeat (first | exact Below.refl _ _ | refine Below.drew ?_ | refine below_drewN ?_ _ | refine Below.alloc ?_ (by simp; try omega) _)) hb
  have hsz := hc.size
  replace d1 := Below.now d1 hc
  replace d3 := Below.now d3 hc
  replace d9 := Below.now d9 hc
  replace eh0 := Below.now eh0 hc
  replace eh1 := Below.now eh1 hc
  replace d11 := Below.now d11 hc
  clear hb hc hsz
  go_wp2_with fail
  refine (heldIntS_any 1 _ cg ag _ (HM.out.later (Below.now d9 (by repeat (first | exact Below.refl _ _ | refine Below.drew ?_ | refine below_drewN ?_ _ | refine Below.alloc ?_ (by simp; try omega) _)))) (by omega) (by have := cosF_len n0 l0 l1; omega)).mono ?_
  rintro e w' ⟨rfl, rfl⟩
  go_wp2_with fail
  go_ret
  exact ⟨rfl, Below.now hbel.out d1⟩
theorem walk (n0 : Int) (l0 : List Int) (a0 : Option Addr) (c0 : Nat) (l1 : List Int) (a1 : Option Addr) (c1 : Nat) (w : World) (hl0 : IntsIn w a0 l0) (hn0 : l0.length ≤ 9223372036854775807) (hl1 : IntsIn w a1 l1) (hn1 : l1.length ≤ 9223372036854775807) :
    Calls Try.prog 16 #[.agg #[.int .i64 n0, .slice a0 l0.length c0], .slice a1 l1.length c1] w fun e w' => e = .returned (.bool true) ∧ Below w.heap.size w w' := by
  by_cases hs1 : (1048576 : Int) < (l1.length : Int)
  · exact walkBig1 n0 l0 a0 c0 l1 a1 c1 w hl0 hn0 hl1 hn1  hs1
  by_cases hs0 : (1048576 : Int) < (l0.length : Int)
  · exact walkBig0 n0 l0 a0 c0 l1 a1 c1 w hl0 hn0 hl1 hn1 hs1 hs0
  exact walkSmall n0 l0 a0 c0 l1 a1 c1 w hl0 hn0 hl1 hn1 hs1 hs0
end Go.Proofs.Ytkkffaiacipibaa.fnExactCosetsOf
