/-
  The walk of 'FnExactAllReduced': AllReduced of the program and of the reference, called on copies of the argument, marked, and called once more.
-/
import Derived.Test.YtlldhmoiahcfpaaDoorGrp42
import Derived.Test.YtlldhmoiahcfpaaDoorGrp45
import Derived.Test.YtlldhmoiahcfpaaDoorGrp46
import Derived.Test.YtlldhmoiahcfpaaDoorGrp09
import Derived.Deep.RegionHeld3
namespace Go.Proofs.YtlldhmoiahcfpaaDoor.fnExactAllReduced
open Go.ChangeShapes Go.WideShapes Go.ChangeAt Go.RowKit Go.Joins
open Go.ChangeMaps (open_string shut_string)
set_option linter.unusedVariables false
set_option maxHeartbeats 1000000 in
theorem walkBig0 (n0 : Int) (l0 : List RulD) (a0 : Option Addr) (c0 : Nat) (w : World) (hl0 : RulesIn w a0 l0) (hn0 : l0.length ≤ 9223372036854775807) (hm0 : SzR l0) (ht : Tab10 w) (hs0 : (1048576 : Int) < (l0.length : Int) + ruleSum l0) :
    Calls Tryd.prog 4 #[.agg #[.int .i64 n0, .slice a0 l0.length c0]] w fun e w' => e = .returned (.bool true) ∧ Below w.heap.size w w' := by
  have HL0 := Lib.hid hl0
  have HM0 := Lib.hid hm0
  have HS0 := fun w hl => szSystem_any n0 l0 a0 c0 1048576 w hl hn0 hm0 (by omega) (by omega)
  clear hm0
  rw [szRF_big hs0] at HS0
  have HT0 := fun w hl => Lib.hid (HS0 w hl)
  clear HS0
  clear hl0
  clear ht
  go_enter Tryd.func4, Tryd.ntmps4
  go_wp2_with fail
  refine (HT0 _ (HL0.out.later (by repeat (first | exact Below.refl _ _ | refine Below.drew ?_ | refine below_drewN ?_ _ | refine Below.alloc ?_ (by simp; try omega) _)))).out.mono ?_
  rintro e u0 ⟨rfl, hb0⟩
  have hk0 : Below w.heap.size w u0 := Below.now (by repeat (first | exact Below.refl _ _ | refine Below.drew ?_ | refine below_drewN ?_ _ | refine Below.alloc ?_ (by simp; try omega) _)) hb0
  clear hb0
  go_wp2_with fail
  go_ret
  exact ⟨rfl, hk0⟩
set_option maxRecDepth 100000 in
set_option maxHeartbeats 2000000 in
theorem walkSmall (n0 : Int) (l0 : List RulD) (a0 : Option Addr) (c0 : Nat) (w : World) (hl0 : RulesIn w a0 l0) (hn0 : l0.length ≤ 9223372036854775807) (hm0 : SzR l0) (ht : Tab10 w) (hs0 : ¬ (1048576 : Int) < (l0.length : Int) + ruleSum l0) :
    Calls Tryd.prog 4 #[.agg #[.int .i64 n0, .slice a0 l0.length c0]] w fun e w' => e = .returned (.bool true) ∧ Below w.heap.size w w' := by
  have HL0 := Lib.hid hl0
  have HM0 := Lib.hid hm0
  have HS0 := fun w hl => szSystem_any n0 l0 a0 c0 1048576 w hl hn0 hm0 (by omega) (by omega)
  clear hm0
  rw [szRF_ok hs0] at HS0
  have HT0 := fun w hl => Lib.hid (HS0 w hl)
  clear HS0
  have hz0 : l0.length + ruleSum l0 ≤ 1048576 := by omega
  have HT10 := Lib.hid ht
  clear ht
  clear hl0
  clear hs0
  go_enter Tryd.func4, Tryd.ntmps4
  go_wp2_with fail
  refine (HT0 _ (HL0.out.later (by repeat (first | exact Below.refl _ _ | refine Below.drew ?_ | refine below_drewN ?_ _ | refine Below.alloc ?_ (by simp; try omega) _)))).out.mono ?_
  rintro e u0 ⟨rfl, hb0⟩
  have B0 : Hid (Below w.heap.size w u0) := Lib.hid (Below.now (by repeat (first | exact Below.refl _ _ | refine Below.drew ?_ | refine below_drewN ?_ _ | refine Below.alloc ?_ (by simp; try omega) _)) hb0)
  have q00 : u0.cell? ⟨w.heap.size, 0, none⟩ = some (.int .i64 n0) := by rw [hb0.cell (by simp; try omega)]; simp [go_sem]
  have q01 : u0.cell? ⟨w.heap.size, 1, none⟩ = some (.slice a0 l0.length c0) := by rw [hb0.cell (by simp; try omega)]; simp [go_sem]
  clear hb0
  have HX : Hid (∀ W, Below u0.heap.size u0 W → W.cell? ⟨w.heap.size, 0, none⟩ = some (.int .i64 n0) ∧ W.cell? ⟨w.heap.size, 1, none⟩ = some (.slice a0 l0.length c0)) := Lib.hid (fun W hW => ⟨(hW.cell (World.block_lt_of_cell? _ _ q00)).trans q00, (hW.cell (World.block_lt_of_cell? _ _ q01)).trans q01⟩)
  replace HL0 := Lib.hid (HL0.out.later B0.out)
  replace HT10 := Lib.hid (HT10.out.later B0.out)
  go_wp2_with fail
  refine (toSystem_any n0 l0 a0 c0 _ (HL0.out.later (by repeat (first | exact Below.refl _ _ | refine Below.drew ?_ | refine below_drewN ?_ _ | refine Below.alloc ?_ (by simp; try omega) _))) (by omega)).mono ?_
  rintro e v1 ⟨ap0, cp0, rfl, ho, hb⟩
  have B1 : Hid (Below u0.heap.size u0 v1) := Lib.hid (Below.now (by repeat (first | exact Below.refl _ _ | refine Below.drew ?_ | refine below_drewN ?_ _ | refine Below.alloc ?_ (by simp; try omega) _)) hb)
  have HP := Lib.hid (owns_rules (l := l0) ho)
  clear ho hb q00 q01
  go_wp2_with fail
  refine (specAllReduced_fn n0 l0 ap0 cp0 _ (HP.out.later (by repeat (first | exact Below.refl _ _ | refine Below.drew ?_ | refine below_drewN ?_ _ | refine Below.alloc ?_ (by simp; try omega) _))) (by omega) HM0.out).mono ?_
  rintro e v2 ⟨L, f, aw, cw, hal, rfl, ho, hb⟩
  have B2 : Hid (Below u0.heap.size u0 v2) := Lib.hid (Below.now B1.out (Below.now (by repeat (first | exact Below.refl _ _ | refine Below.drew ?_ | refine below_drewN ?_ _ | refine Below.alloc ?_ (by simp; try omega) _)) hb))
  have HW := Lib.hid (owns_strs1 ho)
  have HAL := Lib.hid hal
  have hfew := hal.few
  clear ho hb hal HP B1
  obtain ⟨r0, r1⟩ := HX.out v2 B2.out
  go_wp2_with fail
  refine (toSystem_any n0 l0 a0 c0 _ (HL0.out.later (Below.now B2.out (by repeat (first | exact Below.refl _ _ | refine Below.drew ?_ | refine below_drewN ?_ _ | refine Below.alloc ?_ (by simp; try omega) _)))) (by omega)).mono ?_
  rintro e v3 ⟨ax0, cx0, rfl, ho, hb⟩
  have B3 : Hid (Below v2.heap.size v2 v3) := Lib.hid (Below.now (by repeat (first | exact Below.refl _ _ | refine Below.drew ?_ | refine below_drewN ?_ _ | refine Below.alloc ?_ (by simp; try omega) _)) hb)
  have HOx : Hid (v3.ownsRow v2.heap.size 63 2 (.slice ax0 l0.length cx0) l0.length (ruleCells l0)) := Lib.hid (owns_mono ho (by simp; try omega))
  clear ho hb r0 r1
  go_wp2_with fail
  refine (implAllReduced_fn n0 l0 ax0 cx0 _ ((owns_rules (l := l0) HOx.out).later (by repeat (first | exact Below.refl _ _ | refine Below.drew ?_ | refine below_drewN ?_ _ | refine Below.alloc ?_ (by simp; try omega) _))) (by omega) HM0.out (HT10.out.later (Below.now B2.out (Below.now B3.out (by repeat (first | exact Below.refl _ _ | refine Below.drew ?_ | refine below_drewN ?_ _ | refine Below.alloc ?_ (by simp; try omega) _)))))).mono ?_
  rintro e v4 ⟨L', f', ag, cg, hal, rfl, ho, hb⟩
  obtain ⟨rfl, rfl⟩ := HAL.out.uniq hal
  have y00 : v4.cell? ⟨v3.heap.size, 0, none⟩ = some (.int .i64 n0) := by rw [hb.cell (by simp; try omega)]; simp [go_sem]
  have y01 : v4.cell? ⟨v3.heap.size, 1, none⟩ = some (.slice ax0 l0.length cx0) := by rw [hb.cell (by simp; try omega)]; simp [go_sem]
  have B4 : Hid (Below v3.heap.size v3 v4) := Lib.hid (Below.now (by repeat (first | exact Below.refl _ _ | refine Below.drew ?_ | refine below_drewN ?_ _ | refine Below.alloc ?_ (by simp; try omega) _)) hb)
  have HY : Hid (∀ W, Below v4.heap.size v4 W → W.cell? ⟨v3.heap.size, 0, none⟩ = some (.int .i64 n0) ∧ W.cell? ⟨v3.heap.size, 1, none⟩ = some (.slice ax0 l0.length cx0)) := Lib.hid (fun W hW => ⟨(hW.cell (World.block_lt_of_cell? _ _ y00)).trans y00, (hW.cell (World.block_lt_of_cell? _ _ y01)).trans y01⟩)
  have HOg : Hid (v4.ownsRow v3.heap.size 9 1 (.slice ag L.length cg) L.length (strVals L)) := Lib.hid (owns_mono ho (by simp; try omega))
  clear ho hb hal y00 y01
  have EQ1 := Lib.hid (eqStringS_same L ag aw cg cw v4 (owns_strs1 HOg.out) (HW.out.later (Below.now B3.out B4.out)) (by omega))
  go_wp2_with fail
  refine EQ1.out.mono ?_
  rintro e v5 ⟨rfl, hb⟩
  have B5 := Lib.hid hb
  clear hb EQ1
  obtain ⟨r0, r1⟩ := HX.out v5 (Below.now B2.out (Below.now B3.out (Below.now B4.out B5.out)))
  obtain ⟨r2, r3⟩ := HY.out v5 B5.out
  cases f
  all_goals
    go_wp2_with fail
    go_region_held3 (fun w' => w'.cell? ⟨w.heap.size, 0, none⟩ = some (.int .i64 n0) ∧ w'.cell? ⟨w.heap.size, 1, none⟩ = some (.slice a0 l0.length c0) ∧ w'.cell? ⟨v3.heap.size, 0, none⟩ = some (.int .i64 n0) ∧ w'.cell? ⟨v3.heap.size, 1, none⟩ = some (.slice ax0 l0.length cx0)) (go_keep) (first | (go_at_call 7; refine (toSystem_any n0 l0 a0 c0 _ (HL0.out.later (Below.now B2.out (Below.now B3.out (Below.now B4.out (Below.now B5.out (Below.drew (Below.refl _ _))))))) (by omega)).mono ?_; rintro e v6 ⟨aq, cq, rfl, ho, hb⟩; have k1 : Hid (Below v5.heap.size v5 v6) := Lib.hid (Below.now (Below.drew (Below.refl _ _)) hb); have s0 := (k1.out.cell (World.block_lt_of_cell? v5 _ r0)).trans r0; have s1 := (k1.out.cell (World.block_lt_of_cell? v5 _ r1)).trans r1; have s2 := (k1.out.cell (World.block_lt_of_cell? v5 _ r2)).trans r2; have s3 := (k1.out.cell (World.block_lt_of_cell? v5 _ r3)).trans r3; have HLt := Lib.hid (owns_rules (l := l0) ho); clear ho hb) | (go_at_call 9; refine (eqSystem_same n0 l0 ax0 aq cx0 cq _ ((owns_rules (l := l0) HOx.out).later (Below.now B4.out (Below.now B5.out k1.out))) HLt.out (by omega)).mono ?_; rintro e v7 ⟨rfl, hb⟩; have k2 : Hid (Below v5.heap.size v5 v7) := Lib.hid (Below.now k1.out hb); have t0 := (k2.out.cell (World.block_lt_of_cell? v5 _ r0)).trans r0; have t1 := (k2.out.cell (World.block_lt_of_cell? v5 _ r1)).trans r1; have t2 := (k2.out.cell (World.block_lt_of_cell? v5 _ r2)).trans r2; have t3 := (k2.out.cell (World.block_lt_of_cell? v5 _ r3)).trans r3; clear hb))
    clear r0 r1 r2 r3 s0 s1 s2 s3 HLt k1
    have HB6 := Lib.hid (Below.now B4.out (Below.now B5.out k2.out))
    have MKx := Lib.hid (markSystem_any n0 l0.length 1 cx0 v2.heap.size ax0 (ruleCells l0) v7 (owns_later HOx.out HB6.out) (by omega) (by omega))
    go_wp2_with fail
    refine MKx.out.mono ?_
    rintro e v8 ⟨rfl, hr⟩
    have B8 : Hid (Below v2.heap.size v2 v8) := Lib.hid (below_only (Below.now B3.out HB6.out) hr (Below.now B3.out HB6.out).size (fun x hx => (owns_range HOx.out x hx).1))
    have HG8 : Hid (v8.ownsRow v3.heap.size 9 1 (.slice ag L.length cg) L.length (strVals L)) := Lib.hid (owns_only (owns_later HOg.out (Below.now B5.out k2.out)) hr (fun x y hx hy => by have h1 := owns_range HOg.out x hx; have h2 := owns_range HOx.out y hy; omega))
    clear hr MKx t0 t1 t2 t3
    have EQ2 := Lib.hid (eqStringS_same L ag aw cg cw v8 (owns_strs1 HG8.out) (HW.out.later B8.out) (by omega))
    go_wp2_with fail
    refine EQ2.out.mono ?_
    rintro e v9 ⟨rfl, hb⟩
    have B9 := Lib.hid hb
    clear hb EQ2
    have MK := Lib.hid (markStringS_any 1 L.length cg v3.heap.size ag (strVals L) v9 (owns_later HG8.out B9.out) (by omega) (by omega))
    go_wp2_with fail
    refine MK.out.mono ?_
    rintro e v10 ⟨rfl, hom, hor⟩
    have B10 : Hid (Below v2.heap.size v2 v10) := Lib.hid (below_only (Below.now B8.out B9.out) hor (Below.now B8.out B9.out).size (fun x hx => by have h1 := (owns_range HG8.out x hx).1; have h2 := B3.out.size; omega))
    have HM := Lib.hid (owns_strs1 (l := markStrs 1 L.length) hom)
    clear hom hor MK
    have HE1 := Lib.hid (heldStringS_any 1 L.length cg ag v10 HM.out (by omega) (by omega))
    go_wp2_with fail
    refine HE1.out.mono ?_
    rintro e v11 ⟨rfl, hb⟩
    have B11 := Lib.hid hb
    clear hb HE1
    obtain ⟨r0, r1⟩ := HX.out v11 (Below.now B2.out (Below.now B10.out B11.out))
    go_wp2_with fail
    refine (toSystem_any n0 l0 a0 c0 _ (HL0.out.later (Below.now B2.out (Below.now B10.out (Below.now B11.out (by repeat (first | exact Below.refl _ _ | refine Below.drew ?_ | refine below_drewN ?_ _ | refine Below.alloc ?_ (by simp; try omega) _)))))) (by omega)).mono ?_
    rintro e v12 ⟨ah0, ch0, rfl, ho, hb⟩
    have B12 : Hid (Below v11.heap.size v11 v12) := Lib.hid (Below.now (by repeat (first | exact Below.refl _ _ | refine Below.drew ?_ | refine below_drewN ?_ _ | refine Below.alloc ?_ (by simp; try omega) _)) hb)
    have HH0 := Lib.hid (owns_rules (l := l0) ho)
    clear ho hb r0 r1
    go_wp2_with fail
    refine (implAllReduced_fn n0 l0 ah0 ch0 _ (HH0.out.later (by repeat (first | exact Below.refl _ _ | refine Below.drew ?_ | refine below_drewN ?_ _ | refine Below.alloc ?_ (by simp; try omega) _))) (by omega) HM0.out (HT10.out.later (Below.now B2.out (Below.now B10.out (Below.now B11.out (Below.now B12.out (by repeat (first | exact Below.refl _ _ | refine Below.drew ?_ | refine below_drewN ?_ _ | refine Below.alloc ?_ (by simp; try omega) _)))))))).mono ?_
    rintro e v13 ⟨L2, f2, ah, ch, hal, rfl, ho, hb⟩
    obtain ⟨rfl, rfl⟩ := HAL.out.uniq hal
    have B13 : Hid (Below v10.heap.size v10 v13) := Lib.hid (Below.now B11.out (Below.now B12.out (Below.now (by repeat (first | exact Below.refl _ _ | refine Below.drew ?_ | refine below_drewN ?_ _ | refine Below.alloc ?_ (by simp; try omega) _)) hb)))
    have HH := Lib.hid (owns_strs1 ho)
    clear ho hb hal
    have EQ3 := Lib.hid (eqStringS_same L ah aw ch cw v13 HH.out (HW.out.later (Below.now B10.out B13.out)) (by omega))
    go_wp2_with fail
    refine EQ3.out.mono ?_
    rintro e v14 ⟨rfl, hb⟩
    have B14 := Lib.hid hb
    clear hb EQ3
    have HE2 := Lib.hid (heldStringS_any 1 L.length cg ag v14 (HM.out.later (Below.now B13.out B14.out)) (by omega) (by omega))
    go_wp2_with fail
    refine HE2.out.mono ?_
    rintro e v15 ⟨rfl, hb⟩
    have B15 : Hid (Below w.heap.size w v15) := Lib.hid (Below.now B0.out (Below.now B2.out (Below.now B10.out (Below.now B13.out (Below.now B14.out hb)))))
    clear hb HE2
    go_wp2_with fail
    go_ret
    exact ⟨rfl, B15.out⟩
theorem walk (n0 : Int) (l0 : List RulD) (a0 : Option Addr) (c0 : Nat) (w : World) (hl0 : RulesIn w a0 l0) (hn0 : l0.length ≤ 9223372036854775807) (hm0 : SzR l0) (ht : Tab10 w) :
    Calls Tryd.prog 4 #[.agg #[.int .i64 n0, .slice a0 l0.length c0]] w fun e w' => e = .returned (.bool true) ∧ Below w.heap.size w w' := by
  by_cases hs0 : (1048576 : Int) < (l0.length : Int) + ruleSum l0
  · exact walkBig0 n0 l0 a0 c0 w hl0 hn0 hm0 ht  hs0
  exact walkSmall n0 l0 a0 c0 w hl0 hn0 hm0 ht hs0
end Go.Proofs.YtlldhmoiahcfpaaDoor.fnExactAllReduced
