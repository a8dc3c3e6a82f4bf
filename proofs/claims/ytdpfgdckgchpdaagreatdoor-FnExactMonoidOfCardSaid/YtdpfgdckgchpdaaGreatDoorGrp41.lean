/-
  'FnExactMonoidOf' holds: whatever the arguments, the program's MonoidOf answers as the reference's does, and leaves its arguments as they were. No condition.
-/
import Derived.Test.YtdpfgdckgchpdaaGreatDoorGrp38
import Derived.Test.YtdpfgdckgchpdaaGreatDoorGrp40
import Derived.Test.YtdpfgdckgchpdaaGreatDoorGrp05
import Derived.Deep.RegionHeld3
import Derived.Test.YtdpfgdckgchpdaaGreatDoorTie
import Derived.Test.YtdpfgdckgchpdaaGreatDoorCards
import Derived.LaidMore
import Derived.Lib.LaidTab
import Derived.Stop.Joined
import Derived.Stop.LaidErr
import Derived.SevenTiedAt
import Derived.ChangeSame
namespace Go.Proofs.YtdpfgdckgchpdaaGreatDoor.fnExactMonoidOf
open Go.ChangeShapes Go.WideShapes Go.ChangeAt Go.RowKit Go.Joins
open Go.ChangeMaps (open_string shut_string)
set_option linter.unusedVariables false
/-- the two fields of a box, in all later worlds -/
theorem box_hid {W : World} {x y : Value} {b : Nat} (h : W.cell? ⟨b, 0, none⟩ = some x ∧ W.cell? ⟨b, 1, none⟩ = some y) : ∀ W', Below W.heap.size W W' → W'.cell? ⟨b, 0, none⟩ = some x ∧ W'.cell? ⟨b, 1, none⟩ = some y := fun W' hW => ⟨(hW.cell (World.block_lt_of_cell? _ _ h.1)).trans h.1, (hW.cell (World.block_lt_of_cell? _ _ h.2)).trans h.2⟩
set_option maxHeartbeats 1000000 in
theorem walkBig0 (n0 : Int) (l0 : List RulD) (a0 : Option Addr) (c0 : Nat) (w : World) (hl0 : RulesIn w a0 l0) (hn0 : l0.length ≤ 9223372036854775807) (hm0 : SzR l0) (ht : Tab10 w) (hs0 : (1048576 : Int) < (l0.length : Int) + ruleSum l0) :
    Calls Tryz.prog 4 #[.agg #[.int .i64 n0, .slice a0 l0.length c0]] w fun e w' => e = .returned (.bool true) ∧ Below w.heap.size w w' := by
  have HL0 := Lib.hid hl0
  have HM0 := Lib.hid hm0
  have HS0 := fun w hl => szSystem_any n0 l0 a0 c0 1048576 w hl hn0 hm0 (by omega) (by omega)
  clear hm0
  rw [szRF_big hs0] at HS0
  have HT0 := fun w hl => Lib.hid (HS0 w hl)
  clear HS0
  clear hl0
  clear ht
  go_enter Tryz.func4, Tryz.ntmps4
  go_wp2_with fail
  refine (HT0 _ (HL0.out.later (by repeat (first | exact Below.refl _ _ | refine Below.drew ?_ | refine below_drewN ?_ _ | refine Below.alloc ?_ (by simp; try omega) _)))).out.mono ?_
  rintro e u0 ⟨rfl, hb0⟩
  have hk0 : Below w.heap.size w u0 := Below.now (by repeat (first | exact Below.refl _ _ | refine Below.drew ?_ | refine below_drewN ?_ _ | refine Below.alloc ?_ (by simp; try omega) _)) hb0
  clear hb0
  go_wp2_with fail
  go_ret
  exact ⟨rfl, hk0⟩
set_option maxRecDepth 100000 in
set_option maxHeartbeats 4000000 in
theorem walkSmall (n0 : Int) (l0 : List RulD) (a0 : Option Addr) (c0 : Nat) (w : World) (hl0 : RulesIn w a0 l0) (hn0 : l0.length ≤ 9223372036854775807) (hm0 : SzR l0) (ht : Tab10 w) (hs0 : ¬ (1048576 : Int) < (l0.length : Int) + ruleSum l0) :
    Calls Tryz.prog 4 #[.agg #[.int .i64 n0, .slice a0 l0.length c0]] w fun e w' => e = .returned (.bool true) ∧ Below w.heap.size w w' := by
  have HL0 := Lib.hid hl0
  have HM0 := Lib.hid hm0
  have HS0 := fun w hl => szSystem_any n0 l0 a0 c0 1048576 w hl hn0 hm0 (by omega) (by omega)
  clear hm0
  rw [szRF_ok hs0] at HS0
  have HT0 := fun w hl => Lib.hid (HS0 w hl)
  clear HS0
  have hz0 : l0.length + ruleSum l0 ≤ 1048576 := by omega
  have HT10 := Lib.hid ht
  clear ht
  clear hl0
  clear hs0
  go_enter Tryz.func4, Tryz.ntmps4
  go_wp2_with fail
  refine (HT0 _ (HL0.out.later (by repeat (first | exact Below.refl _ _ | refine Below.drew ?_ | refine below_drewN ?_ _ | refine Below.alloc ?_ (by simp; try omega) _)))).out.mono ?_
  rintro e u0 ⟨rfl, hb0⟩
  have B0 : Hid (Below w.heap.size w u0) := Lib.hid (Below.now (by repeat (first | exact Below.refl _ _ | refine Below.drew ?_ | refine below_drewN ?_ _ | refine Below.alloc ?_ (by simp; try omega) _)) hb0)
  have q00 : u0.cell? ⟨w.heap.size, 0, none⟩ = some (.int .i64 n0) := by rw [hb0.cell (by simp; try omega)]; simp [go_sem]
  have q01 : u0.cell? ⟨w.heap.size, 1, none⟩ = some (.slice a0 l0.length c0) := by rw [hb0.cell (by simp; try omega)]; simp [go_sem]
  clear hb0
  have HX := Lib.hid (box_hid ⟨q00, q01⟩)
  replace HL0 := Lib.hid (HL0.out.later B0.out)
  replace HT10 := Lib.hid (HT10.out.later B0.out)
  go_wp2_with fail
  refine (toSystem_any n0 l0 a0 c0 _ (HL0.out.later (by repeat (first | exact Below.refl _ _ | refine Below.drew ?_ | refine below_drewN ?_ _ | refine Below.alloc ?_ (by simp; try omega) _))) (by omega)).mono ?_
  rintro e v1 ⟨ap0, cp0, rfl, ho, hb⟩
  have B1 : Hid (Below u0.heap.size u0 v1) := Lib.hid (Below.now (by repeat (first | exact Below.refl _ _ | refine Below.drew ?_ | refine below_drewN ?_ _ | refine Below.alloc ?_ (by simp; try omega) _)) hb)
  have HP := Lib.hid (owns_rules (l := l0) ho)
  clear ho hb q00 q01
  go_wp2_with fail
  refine (specMonoidOf_any n0 l0 ap0 cp0 _ (HP.out.later (by repeat (first | exact Below.refl _ _ | refine Below.drew ?_ | refine below_drewN ?_ _ | refine Below.alloc ?_ (by simp; try omega) _))) (by omega) HM0.out).mono ?_
  rintro e v2 ⟨L, P, f, awP, aw, cwP, cw, hmon, rfl, hoP, ho, hb⟩
  have B2 : Hid (Below u0.heap.size u0 v2) := Lib.hid (Below.now B1.out (Below.now (by repeat (first | exact Below.refl _ _ | refine Below.drew ?_ | refine below_drewN ?_ _ | refine Below.alloc ?_ (by simp; try omega) _)) hb))
  have HW := Lib.hid (owns_strs1 ho)
  have HWP : Hid (IntsIn v2 awP P) := Lib.hid (owns_ints hoP)
  have HAL := Lib.hid hmon
  obtain ⟨hfew, hfewP⟩ := hmon.few
  clear ho hoP hb hmon HP B1
  have r0 := fun o => (HX.out _ (Below.now B2.out (alloc_belowS v2 o))).1
  have r1 := fun o => (HX.out _ (Below.now B2.out (alloc_belowS v2 o))).2
  go_wp2_with fail
  refine (toSystem_any n0 l0 a0 c0 _ (HL0.out.later (Below.now B2.out (by repeat (first | exact Below.refl _ _ | refine Below.drew ?_ | refine below_drewN ?_ _ | refine Below.alloc ?_ (by simp; try omega) _)))) (by omega)).mono ?_
  rintro e v3 ⟨ax0, cx0, rfl, ho, hb⟩
  have HW0 := Lib.hid (box_hid (box_two hb))
  have B3 : Hid (Below v2.heap.size v2 v3) := Lib.hid (Below.now (by repeat (first | exact Below.refl _ _ | refine Below.drew ?_ | refine below_drewN ?_ _ | refine Below.alloc ?_ (by simp; try omega) _)) hb)
  have HOx : Hid (v3.ownsRow (v2.heap.size + 1) 60 2 (.slice ax0 l0.length cx0) l0.length (ruleCells l0)) := Lib.hid (owns_mono ho (by simp; try omega))
  clear ho hb r0 r1
  go_wp2_with fail
  refine (implMonoidOf_any n0 l0 ax0 cx0 _ ((owns_rules (l := l0) HOx.out).later (by repeat (first | exact Below.refl _ _ | refine Below.drew ?_ | refine below_drewN ?_ _ | refine Below.alloc ?_ (by simp; try omega) _))) (by omega) HM0.out (HT10.out.later (Below.now B2.out (Below.now B3.out (by repeat (first | exact Below.refl _ _ | refine Below.drew ?_ | refine below_drewN ?_ _ | refine Below.alloc ?_ (by simp; try omega) _)))))).mono ?_
  rintro e v4 ⟨L', P', f', agP, ag, cgP, cg, hmon, rfl, hoP, ho, hb⟩
  obtain ⟨rfl, rfl, rfl⟩ := HAL.out.uniq hmon
  have HX0 := Lib.hid (box_hid (box_two hb))
  have B4 : Hid (Below v3.heap.size v3 v4) := Lib.hid (Below.now (by repeat (first | exact Below.refl _ _ | refine Below.drew ?_ | refine below_drewN ?_ _ | refine Below.alloc ?_ (by simp; try omega) _)) hb)
  have HOg : Hid (v4.ownsRow v3.heap.size 9 1 (.slice ag L.length cg) L.length (strVals L)) := Lib.hid (owns_mono ho (by simp; try omega))
  have HOp : Hid (v4.ownsRow v3.heap.size 3 1 (.slice agP P.length cgP) P.length (P.map (Value.int .i64))) := Lib.hid (owns_mono hoP (by simp; try omega))
  have HAP : Hid (∀ x y, agP = some x → ag = some y → x.block ≠ y.block) := Lib.hid (owns_apart HOp.out HOg.out (by decide))
  clear ho hoP hb hmon
  have r0 := fun o => (HW0.out _ (Below.now B4.out (alloc_belowS v4 o))).1
  have r1 := fun o => (HW0.out _ (Below.now B4.out (alloc_belowS v4 o))).2
  go_wp2_with fail
  refine (eqTable_same (L.length : Nat) P agP awP cgP cwP _ ((owns_ints HOp.out).later (by repeat (first | exact Below.refl _ _ | refine Below.drew ?_ | refine below_drewN ?_ _ | refine Below.alloc ?_ (by simp; try omega) _))) (HWP.out.later (Below.now B3.out (Below.now B4.out (by repeat (first | exact Below.refl _ _ | refine Below.drew ?_ | refine below_drewN ?_ _ | refine Below.alloc ?_ (by simp; try omega) _))))) (by omega)).mono ?_
  rintro e v5 ⟨rfl, hb⟩
  have HG0 := Lib.hid (box_hid (box_two hb))
  have B5 : Hid (Below v4.heap.size v4 v5) := Lib.hid (Below.now (by repeat (first | exact Below.refl _ _ | refine Below.drew ?_ | refine below_drewN ?_ _ | refine Below.alloc ?_ (by simp; try omega) _)) hb)
  have hsz5 : Hid (v4.heap.size < v5.heap.size) := Lib.hid (by have := hb.size; simp at this; omega)
  clear r0 r1 hb
  have EQ1 := Lib.hid (eqStringS_same L ag aw cg cw v5 ((owns_strs1 HOg.out).later B5.out) (HW.out.later (Below.now B3.out (Below.now B4.out B5.out))) (by omega))
  go_wp2_with fail
  refine EQ1.out.mono ?_
  rintro e v5b ⟨rfl, hb⟩
  have B5b : Hid (Below v4.heap.size v4 v5b) := Lib.hid (Below.now B5.out hb)
  have B5c : Hid (Below v5.heap.size v5 v5b) := Lib.hid hb
  clear hb EQ1
  obtain ⟨r0, r1⟩ := HX.out v5b (Below.now B2.out (Below.now B3.out (Below.now B4.out B5b.out)))
  obtain ⟨r2, r3⟩ := HX0.out v5b B5b.out
  cases f
  all_goals
    go_wp2_with fail
    go_region_held3 (fun w' => w'.cell? ⟨w.heap.size, 0, none⟩ = some (.int .i64 n0) ∧ w'.cell? ⟨w.heap.size, 1, none⟩ = some (.slice a0 l0.length c0) ∧ w'.cell? ⟨v3.heap.size, 0, none⟩ = some (.int .i64 n0) ∧ w'.cell? ⟨v3.heap.size, 1, none⟩ = some (.slice ax0 l0.length cx0)) (go_keep) (first | (go_at_call 11; refine (toSystem_any n0 l0 a0 c0 _ (HL0.out.later (Below.now B2.out (Below.now B3.out (Below.now B4.out (Below.now B5b.out (Below.drew (Below.refl _ _))))))) (by omega)).mono ?_; rintro e v6 ⟨aq, cq, rfl, ho, hb⟩; have k1 : Hid (Below v5b.heap.size v5b v6) := Lib.hid (Below.now (Below.drew (Below.refl _ _)) hb); have s0 := (k1.out.cell (World.block_lt_of_cell? v5b _ r0)).trans r0; have s1 := (k1.out.cell (World.block_lt_of_cell? v5b _ r1)).trans r1; have s2 := (k1.out.cell (World.block_lt_of_cell? v5b _ r2)).trans r2; have s3 := (k1.out.cell (World.block_lt_of_cell? v5b _ r3)).trans r3; have HLt := Lib.hid (owns_rules (l := l0) ho); clear ho hb) | (go_at_call 13; refine (eqSystem_same n0 l0 ax0 aq cx0 cq _ ((owns_rules (l := l0) HOx.out).later (Below.now B4.out (Below.now B5b.out k1.out))) HLt.out (by omega)).mono ?_; rintro e v7 ⟨rfl, hb⟩; have k2 : Hid (Below v5b.heap.size v5b v7) := Lib.hid (Below.now k1.out hb); have t0 := (k2.out.cell (World.block_lt_of_cell? v5b _ r0)).trans r0; have t1 := (k2.out.cell (World.block_lt_of_cell? v5b _ r1)).trans r1; have t2 := (k2.out.cell (World.block_lt_of_cell? v5b _ r2)).trans r2; have t3 := (k2.out.cell (World.block_lt_of_cell? v5b _ r3)).trans r3; clear hb))
    clear r0 r1 r2 r3 s0 s1 s2 s3 HLt k1
    have HB6 := Lib.hid (Below.now B4.out (Below.now B5b.out k2.out))
    have MKx := Lib.hid (markSystem_any n0 l0.length 1 cx0 (v2.heap.size + 1) ax0 (ruleCells l0) v7 (owns_later HOx.out HB6.out) (by omega) (by omega))
    go_wp2_with fail
    refine MKx.out.mono ?_
    rintro e v8 ⟨rfl, hr⟩
    have B8 : Hid (Below v2.heap.size v2 v8) := Lib.hid (below_only (Below.now B3.out HB6.out) hr (Below.now B3.out HB6.out).size (fun x hx => by have := (owns_range HOx.out x hx).1; omega))
    have HG8 : Hid (v8.ownsRow v3.heap.size 9 1 (.slice ag L.length cg) L.length (strVals L)) := Lib.hid (owns_only (owns_later HOg.out (Below.now B5b.out k2.out)) hr (fun x y hx hy => by have h1 := owns_range HOg.out x hx; have h2 := owns_range HOx.out y hy; omega))
    have HP8 : Hid (v8.ownsRow v3.heap.size 3 1 (.slice agP P.length cgP) P.length (P.map (Value.int .i64))) := Lib.hid (owns_only (owns_later HOp.out (Below.now B5b.out k2.out)) hr (fun x y hx hy => by have h1 := owns_range HOp.out x hx; have h2 := owns_range HOx.out y hy; omega))
    have HW8 : Hid (∀ W, Below v8.heap.size v8 W → W.cell? ⟨v2.heap.size, 0, none⟩ = some (.int .i64 (L.length : Nat)) ∧ W.cell? ⟨v2.heap.size, 1, none⟩ = some (.slice awP P.length cwP)) := Lib.hid (box_hid ⟨cell_only hr (HW0.out v7 HB6.out).1 (fun y hy => by have h2 := owns_range HOx.out y hy; show y.block ≠ v2.heap.size; omega), cell_only hr (HW0.out v7 HB6.out).2 (fun y hy => by have h2 := owns_range HOx.out y hy; show y.block ≠ v2.heap.size; omega)⟩)
    have HGx : Hid (∀ W, Below v8.heap.size v8 W → W.cell? ⟨v4.heap.size, 0, none⟩ = some (.int .i64 (L.length : Nat)) ∧ W.cell? ⟨v4.heap.size, 1, none⟩ = some (.slice agP P.length cgP)) := Lib.hid (box_hid ⟨cell_only hr (HG0.out v7 (Below.now B5c.out k2.out)).1 (fun y hy => by have h2 := owns_range HOx.out y hy; have h3 := B4.out.size; show y.block ≠ v4.heap.size; omega), cell_only hr (HG0.out v7 (Below.now B5c.out k2.out)).2 (fun y hy => by have h2 := owns_range HOx.out y hy; have h3 := B4.out.size; show y.block ≠ v4.heap.size; omega)⟩)
    have hsz8 : Hid (v4.heap.size < v8.heap.size) := Lib.hid (by have h1 := hsz5.out; have h2 := B5c.out.size; have h3 := k2.out.size; have h4 := hr.size; omega)
    clear hr MKx t0 t1 t2 t3
    obtain ⟨r0, r1⟩ := HW8.out v8 (Below.refl _ _)
    obtain ⟨r2, r3⟩ := HGx.out v8 (Below.refl _ _)
    go_wp2_with fail
    refine (eqTable_same (L.length : Nat) P agP awP cgP cwP _ (owns_ints HP8.out) (HWP.out.later B8.out) (by omega)).mono ?_
    rintro e v9 ⟨rfl, hb⟩
    have B9 := Lib.hid hb
    clear hb r0 r1 r2 r3
    have EQ2 := Lib.hid (eqStringS_same L ag aw cg cw v9 ((owns_strs1 HG8.out).later B9.out) (HW.out.later (Below.now B8.out B9.out)) (by omega))
    go_wp2_with fail
    refine EQ2.out.mono ?_
    rintro e v9b ⟨rfl, hb⟩
    have B9b := Lib.hid (Below.now B9.out hb)
    clear hb EQ2
    obtain ⟨r2, r3⟩ := HGx.out v9b B9b.out
    have MKt := Lib.hid (markTable_row (L.length : Nat) P.length 1 cgP v3.heap.size agP (P.map (Value.int .i64)) v9b (owns_later HP8.out B9b.out) (by omega) (by omega))
    go_wp2_with fail
    refine MKt.out.mono ?_
    rintro e v9c ⟨rfl, hom, hor⟩
    have B9c : Hid (Below v2.heap.size v2 v9c) := Lib.hid (below_only (Below.now B8.out B9b.out) hor (Below.now B8.out B9b.out).size (fun x hx => by have h1 := (owns_range HP8.out x hx).1; have h2 := B3.out.size; omega))
    have HG9 : Hid (v9c.ownsRow v3.heap.size 9 1 (.slice ag L.length cg) L.length (strVals L)) := Lib.hid (owns_only (owns_later HG8.out B9b.out) hor (fun x y hx hy => (HAP.out y x hy hx).symm))
    have HM9 := Lib.hid hom
    have HGy : Hid (∀ W, Below v9c.heap.size v9c W → W.cell? ⟨v4.heap.size, 0, none⟩ = some (.int .i64 (L.length : Nat)) ∧ W.cell? ⟨v4.heap.size, 1, none⟩ = some (.slice agP P.length cgP)) := Lib.hid (box_hid ⟨cell_only hor r2 (fun y hy => by have h2 := owns_range HOp.out y hy; show y.block ≠ v4.heap.size; omega), cell_only hor r3 (fun y hy => by have h2 := owns_range HOp.out y hy; show y.block ≠ v4.heap.size; omega)⟩)
    have HWy : Hid (∀ W, Below v9c.heap.size v9c W → W.cell? ⟨v2.heap.size, 0, none⟩ = some (.int .i64 (L.length : Nat)) ∧ W.cell? ⟨v2.heap.size, 1, none⟩ = some (.slice awP P.length cwP)) := Lib.hid (box_hid ⟨cell_only hor (HW8.out v9b B9b.out).1 (fun y hy => by have h2 := owns_range HOp.out y hy; have h3 := HOx.out.1; have h4 := B3.out.size; have h5 := HW0.out v3 (Below.refl _ _); have h6 := World.block_lt_of_cell? _ _ h5.1; show y.block ≠ v2.heap.size; simp only at h6; omega), cell_only hor (HW8.out v9b B9b.out).2 (fun y hy => by have h2 := owns_range HOp.out y hy; have h5 := HW0.out v3 (Below.refl _ _); have h6 := World.block_lt_of_cell? _ _ h5.1; show y.block ≠ v2.heap.size; simp only at h6; omega)⟩)
    clear hom hor MKt r2 r3
    have MK := Lib.hid (markStringS_any (1 + P.length) L.length cg v3.heap.size ag (strVals L) v9c HG9.out (by omega) (by omega))
    go_wp2_with fail
    refine MK.out.mono ?_
    rintro e v10 ⟨rfl, hom, hor⟩
    have B10 : Hid (Below v2.heap.size v2 v10) := Lib.hid (below_only B9c.out hor B9c.out.size (fun x hx => by have h1 := (owns_range HG8.out x hx).1; have h2 := B3.out.size; omega))
    have HM := Lib.hid (owns_strs1 (l := markStrs (1 + P.length) L.length) hom)
    have HMP : Hid (IntsIn v10 agP (markVals 1 P.length)) := Lib.hid (owns_ints (owns_only HM9.out hor (fun x y hx hy => HAP.out x y hx hy)))
    have HGz : Hid (∀ W, Below v10.heap.size v10 W → W.cell? ⟨v4.heap.size, 0, none⟩ = some (.int .i64 (L.length : Nat)) ∧ W.cell? ⟨v4.heap.size, 1, none⟩ = some (.slice agP P.length cgP)) := Lib.hid (box_hid ⟨cell_only hor (HGy.out v9c (Below.refl _ _)).1 (fun y hy => by have h2 := owns_range HOg.out y hy; show y.block ≠ v4.heap.size; omega), cell_only hor (HGy.out v9c (Below.refl _ _)).2 (fun y hy => by have h2 := owns_range HOg.out y hy; show y.block ≠ v4.heap.size; omega)⟩)
    have HWz : Hid (∀ W, Below v10.heap.size v10 W → W.cell? ⟨v2.heap.size, 0, none⟩ = some (.int .i64 (L.length : Nat)) ∧ W.cell? ⟨v2.heap.size, 1, none⟩ = some (.slice awP P.length cwP)) := Lib.hid (box_hid ⟨cell_only hor (HWy.out v9c (Below.refl _ _)).1 (fun y hy => by have h2 := owns_range HOg.out y hy; have h5 := HW0.out v3 (Below.refl _ _); have h6 := World.block_lt_of_cell? _ _ h5.1; show y.block ≠ v2.heap.size; simp only at h6; omega), cell_only hor (HWy.out v9c (Below.refl _ _)).2 (fun y hy => by have h2 := owns_range HOg.out y hy; have h5 := HW0.out v3 (Below.refl _ _); have h6 := World.block_lt_of_cell? _ _ h5.1; show y.block ≠ v2.heap.size; simp only at h6; omega)⟩)
    clear hom hor MK
    obtain ⟨r2, r3⟩ := HGz.out v10 (Below.refl _ _)
    go_wp2_with fail
    refine (heldTable_any (L.length : Nat) P.length 1 cgP agP _ HMP.out (by omega) (by omega)).mono ?_
    rintro e v10b ⟨rfl, hb⟩
    have B10b := Lib.hid hb
    clear hb r2 r3
    have HE1 := Lib.hid (heldStringS_any (1 + P.length) L.length cg ag v10b (HM.out.later B10b.out) (by omega) (by omega))
    go_wp2_with fail
    refine HE1.out.mono ?_
    rintro e v11 ⟨rfl, hb⟩
    have B11 : Hid (Below v10.heap.size v10 v11) := Lib.hid (Below.now B10b.out hb)
    clear hb HE1
    obtain ⟨r0, r1⟩ := HX.out v11 (Below.now B2.out (Below.now B10.out B11.out))
    go_wp2_with fail
    refine (toSystem_any n0 l0 a0 c0 _ (HL0.out.later (Below.now B2.out (Below.now B10.out (Below.now B11.out (by repeat (first | exact Below.refl _ _ | refine Below.drew ?_ | refine below_drewN ?_ _ | refine Below.alloc ?_ (by simp; try omega) _)))))) (by omega)).mono ?_
    rintro e v12 ⟨ah0, ch0, rfl, ho, hb⟩
    have B12 : Hid (Below v11.heap.size v11 v12) := Lib.hid (Below.now (by repeat (first | exact Below.refl _ _ | refine Below.drew ?_ | refine below_drewN ?_ _ | refine Below.alloc ?_ (by simp; try omega) _)) hb)
    have HH0 := Lib.hid (owns_rules (l := l0) ho)
    clear ho hb r0 r1
    go_wp2_with fail
    refine (implMonoidOf_any n0 l0 ah0 ch0 _ (HH0.out.later (by repeat (first | exact Below.refl _ _ | refine Below.drew ?_ | refine below_drewN ?_ _ | refine Below.alloc ?_ (by simp; try omega) _))) (by omega) HM0.out (HT10.out.later (Below.now B2.out (Below.now B10.out (Below.now B11.out (Below.now B12.out (by repeat (first | exact Below.refl _ _ | refine Below.drew ?_ | refine below_drewN ?_ _ | refine Below.alloc ?_ (by simp; try omega) _)))))))).mono ?_
    rintro e v13 ⟨L2, P2, f2, ahP, ah, chP, ch, hmon, rfl, hoP, ho, hb⟩
    obtain ⟨rfl, rfl, rfl⟩ := HAL.out.uniq hmon
    have B13 : Hid (Below v10.heap.size v10 v13) := Lib.hid (Below.now B11.out (Below.now B12.out (Below.now (by repeat (first | exact Below.refl _ _ | refine Below.drew ?_ | refine below_drewN ?_ _ | refine Below.alloc ?_ (by simp; try omega) _)) hb)))
    have HH := Lib.hid (owns_strs1 ho)
    have HHP : Hid (IntsIn v13 ahP P) := Lib.hid (owns_ints hoP)
    clear ho hoP hb hmon
    have r0 := fun o => (HWz.out _ (Below.now B13.out (alloc_belowS v13 o))).1
    have r1 := fun o => (HWz.out _ (Below.now B13.out (alloc_belowS v13 o))).2
    go_wp2_with fail
    refine (eqTable_same (L.length : Nat) P ahP awP chP cwP _ (HHP.out.later (by repeat (first | exact Below.refl _ _ | refine Below.drew ?_ | refine below_drewN ?_ _ | refine Below.alloc ?_ (by simp; try omega) _))) (HWP.out.later (Below.now B10.out (Below.now B13.out (by repeat (first | exact Below.refl _ _ | refine Below.drew ?_ | refine below_drewN ?_ _ | refine Below.alloc ?_ (by simp; try omega) _))))) (by omega)).mono ?_
    rintro e v14 ⟨rfl, hb⟩
    have B14 : Hid (Below v13.heap.size v13 v14) := Lib.hid (Below.now (by repeat (first | exact Below.refl _ _ | refine Below.drew ?_ | refine below_drewN ?_ _ | refine Below.alloc ?_ (by simp; try omega) _)) hb)
    clear hb r0 r1
    have EQ3 := Lib.hid (eqStringS_same L ah aw ch cw v14 (HH.out.later B14.out) (HW.out.later (Below.now B10.out (Below.now B13.out B14.out))) (by omega))
    go_wp2_with fail
    refine EQ3.out.mono ?_
    rintro e v15 ⟨rfl, hb⟩
    have B15 : Hid (Below v10.heap.size v10 v15) := Lib.hid (Below.now B13.out (Below.now B14.out hb))
    clear hb EQ3
    obtain ⟨r2, r3⟩ := HGz.out v15 B15.out
    go_wp2_with fail
    refine (heldTable_any (L.length : Nat) P.length 1 cgP agP _ (HMP.out.later B15.out) (by omega) (by omega)).mono ?_
    rintro e v16 ⟨rfl, hb⟩
    have B16 : Hid (Below v10.heap.size v10 v16) := Lib.hid (Below.now B15.out hb)
    clear hb r2 r3
    have HE2 := Lib.hid (heldStringS_any (1 + P.length) L.length cg ag v16 (HM.out.later B16.out) (by omega) (by omega))
    go_wp2_with fail
    refine HE2.out.mono ?_
    rintro e v17 ⟨rfl, hb⟩
    have B17 : Hid (Below w.heap.size w v17) := Lib.hid (Below.now B0.out (Below.now B2.out (Below.now B10.out (Below.now B16.out hb))))
    clear hb HE2
    go_wp2_with fail
    go_ret
    exact ⟨rfl, B17.out⟩
theorem walk (n0 : Int) (l0 : List RulD) (a0 : Option Addr) (c0 : Nat) (w : World) (hl0 : RulesIn w a0 l0) (hn0 : l0.length ≤ 9223372036854775807) (hm0 : SzR l0) (ht : Tab10 w) :
    Calls Tryz.prog 4 #[.agg #[.int .i64 n0, .slice a0 l0.length c0]] w fun e w' => e = .returned (.bool true) ∧ Below w.heap.size w w' := by
  by_cases hs0 : (1048576 : Int) < (l0.length : Int) + ruleSum l0
  · exact walkBig0 n0 l0 a0 c0 w hl0 hn0 hm0 ht  hs0
  exact walkSmall n0 l0 a0 c0 w hl0 hn0 hm0 ht hs0
end Go.Proofs.YtdpfgdckgchpdaaGreatDoor.fnExactMonoidOf
namespace Go.Proofs.YtdpfgdckgchpdaaGreatDoor.fnExactMonoidOf
open Go.ChangeShapes Go.WideShapes Go.ChangeAt Go.RowKit Go.Joins
open Go.ChangeMaps (open_string shut_string)
set_option linter.unusedVariables false
theorem own : ownKnob Tryz.prog.godebug = none := by kernel_rfl
theorem cellsT : Tryz.prog.cellsOf 24 = 2 := by kernel_rfl
theorem cellsR : Tryz.prog.cellsOf 95 = 2 := by kernel_rfl
theorem cellsS : Tryz.prog.cellsOf 9 = 1 := by kernel_rfl
theorem laidOut : laidOutB Tryz.prog = true := by kernel_rfl
theorem rdT : Tryz.prog.readableRec 24 = true ∧ 24 < Tryz.prog.types.size := ⟨by kernel_rfl, of_decide_eq_true (by kernel_rfl)⟩
theorem rd : ∀ t ∈ Tryz.f4.params.toList, Tryz.prog.readableRec t = true ∧ t < Tryz.prog.types.size := by
  rw [Tryz.params4]
  intro t ht
  simp at ht
  subst ht
  exact rdT
theorem door_met (os : Os) (args : Array Value) : laidMetH Tryz.prog Rows.fnExactMonoidOfRow.laid ((World.doorLaid Tryz.prog 24 os).forCall (fun _ _ => 0) ⟨#[], args, []⟩).memory :=
  laidMetH_of_parts3 (fuel := 8) (laidMet_of_run' 8 (by kernel_rfl) (by kernel_rfl)) (by kernel_rfl) (by kernel_rfl)
theorem tab_laid {W : World} (h : laidMetH Tryz.prog Rows.fnExactMonoidOfRow.laid W) : Tab10 W := by
  rw [MakeChecks.laidMetH_plain _ _ _ (by kernel_rfl)] at h
  have h3 : laidMet Tryz.prog [("internal/strconv.uint64pow10", Lib.tabData .u64 Lib.pow10Tab)] W := by
    have e : (Rows.laid_internal_strconv_uint64pow10 : DataW Unit) = Lib.tabData .u64 Lib.pow10Tab := by kernel_rfl
    rw [← e]
    exact laidMet.tail (laidMet.tail h)
  exact Lib.tabIs_of_head (rest := []) (g := 1) (by kernel_rfl) (by kernel_rfl) Tryz.underlying211 Tryz.underlying200 (by kernel_rfl) (by kernel_rfl) h3
set_option maxRecDepth 100000 in
theorem lifted (os : Os) (started : os.Started) (H : Type) (enc : TypeId × Value → H) :
    ReturnsInHanded {} Tryz.checked os 4 .any (fun w args => (Rows.fnExactMonoidOfSpec.pre enc Tryz.prog Tryz.f4 [] false w args ∧ laidMetH Tryz.prog Rows.fnExactMonoidOfRow.laid w) ∧ sizedMet enc Tryz.prog Tryz.f4 (OpenSpec.ofChange Rows.fnExactMonoidOfSpec) false w args)
      (Rows.fnExactMonoidOfSpec.post enc Tryz.prog Tryz.f4 false true false false) := by
  refine returnsInHanded_of_change_and (C := Tryz.checked) (X := fun w _ => laidMetH Tryz.prog Rows.fnExactMonoidOfRow.laid w) (fun _ _ _ hh h => h.of_heap hh) own started (by kernel_rfl) Tryz.func4
    (ChangeSpec.witness_shaped (enc := enc) (C := Tryz.checked) (os := os) (X := fun w _ => laidMetH Tryz.prog Rows.fnExactMonoidOfRow.laid w) false (World.doorLaid Tryz.prog 24 os) #[.agg #[.int .i64 0, .slice none 0 0]] 8 rfl (World.shaped_of_RefB (by kernel_rfl) (by kernel_rfl)) (by kernel_rfl) (by kernel_rfl) (by kernel_rfl) (door_met os _)) ?_
  intro W base args ds gs before hval0 hW _ _ hL _
  have ht := tab_laid hL
  have hval : ∀ (j : Nat) t v, Tryz.f4.params[j]? = some t → args[j]? = some v → Value.okWide Tryz.prog W .any base t v := hval0
  have hW' := hW
  obtain ⟨p, q, hA0, hV, rfl, hfz, hnd⟩ := hW
  have hA : DataW.TrodAll enc Tryz.prog W 0 (fun _ => true) true Tryz.f4.params.toList args.toList ds p := hA0
  rw [Tryz.params4] at hA hval
  obtain ⟨v0, vs0, d0, ds0, p0, q0, hargs, rfl, rfl, h0, r0⟩ := trodAll_cons hA
  obtain ⟨rfl, rfl, rfl⟩ := trodAll_nil r0
  obtain rfl : args = #[v0] := by cases args; simp_all
  obtain ⟨rfl, rfl⟩ := trodVars_none hV
  obtain ⟨n0, a0, l0, c0, rfl, hl0, hn0, hm0⟩ := open_systemIn Tryz.underlying24 (by kernel_rfl) cellsT Tryz.underlying3 Tryz.underlying22 Tryz.underlying95 cellsR Tryz.underlying9 Tryz.underlying9 rfl rfl cellsS cellsS (hval 0 24 v0 rfl rfl) h0
  clear hA0 hval0
  refine (walk n0 l0 a0 c0 W hl0 hn0 hm0 ht).mono fun e W' ⟨he, hg⟩ => ?_
  subst he
  exact ⟨_, rfl, law_post laidOut rd rfl hW' rfl Tryz.underlying4 rfl hg⟩
theorem over : Rows.fnExactMonoidOfRow.holds Tryz.pinned (OpenSpec.ofChange Rows.fnExactMonoidOfSpec) :=
  OpenClaim.holds_of_wide 4 Tryz.f4 rfl rfl rfl rfl rfl rfl rfl ⟨rfl, rfl, rfl, rfl, rfl⟩ rfl rfl rfl rfl rfl (by kernel_rfl) Tryz.func4 (by kernel_rfl)
    (of_decide_eq_true (by kernel_rfl)) (by unfold Func.isWrapper; first | (rw [if_pos (by decide +kernel)]; kernel_rfl) | (rw [if_neg (by decide +kernel)]; exact ⟨rfl, rfl⟩))
    (fun os started H enc _ => lifted os started H enc)
theorem proved : Rows.FnExactMonoidOfCardSaid :=
  Claim7.holds_tied_plain_at .later [] [.data, .data, .data] true (true, "00565f23f81ca7739f6ae0cb00e5b15749cae2239301be8a63af8894a477114d") false
    over (fun _ h => by cases h) (by kernel_rfl) (fun _ h => by cases h) fnExactMonoidOf_row_tie rfl ⟨rfl, rfl⟩ (by kernel_rfl) rfl
    (fun f fn hf hfn => by
      obtain rfl : f = 4 := Option.some.inj ((show Tryz.prog.funcNamed "loop.example/g03201/laws.FnExactMonoidOf" = some 4 by kernel_rfl).symm.trans hf) |>.symm
      obtain rfl : fn = Tryz.f4 := (Option.some.inj (Tryz.func4.symm.trans hfn)).symm
      exact ⟨by kernel_rfl, fun j t ht => by
        rw [Tryz.params4] at ht
        have hm : t ∈ [24] := by simpa using Array.mem_of_getElem? ht
        have hall : ([24].all fun u => !Tryz.prog.wantsStandIn u) = true := by kernel_rfl
        exact (show Tryz.prog.wantsStandIn t = false by simpa using List.all_eq_true.1 hall t hm)⟩)
    (by kernel_rfl)
#print axioms proved
end Go.Proofs.YtdpfgdckgchpdaaGreatDoor.fnExactMonoidOf
