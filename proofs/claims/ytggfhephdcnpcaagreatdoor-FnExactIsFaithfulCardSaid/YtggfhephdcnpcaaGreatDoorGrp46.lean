/-
  The walk of 'FnExactIsFaithful': IsFaithful of the program and of the reference, called on copies of the arguments.
-/
import Derived.Test.YtggfhephdcnpcaaGreatDoorGrp43
import Derived.Test.YtggfhephdcnpcaaGreatDoorGrp30
import Derived.Test.YtggfhephdcnpcaaGreatDoorGrp44
import Derived.Test.YtggfhephdcnpcaaGreatDoorGrp05
import Derived.Deep.RegionHeld3
import Derived.Test.YtggfhephdcnpcaaGreatDoorGrp45
namespace Go.Proofs.YtggfhephdcnpcaaGreatDoor.fnExactIsFaithful
open Go.ChangeShapes Go.WideShapes Go.ChangeAt Go.RowKit Go.Joins
open Go.ChangeMaps (open_string shut_string)
set_option linter.unusedVariables false
set_option maxHeartbeats 1000000 in
theorem walkBig2 (n0 : Int) (l0 : List RulD) (a0 : Option Addr) (c0 : Nat) (n1 : Int) (l1 : List Int) (a1 : Option Addr) (c1 : Nat) (l2 : List Int) (a2 : Option Addr) (c2 : Nat) (w : World) (hl0 : RulesIn w a0 l0) (hn0 : l0.length ≤ 9223372036854775807) (hm0 : SzR l0) (hl1 : IntsIn w a1 l1) (hn1 : l1.length ≤ 9223372036854775807) (hl2 : IntsIn w a2 l2) (hn2 : l2.length ≤ 9223372036854775807) (ht : Tab10 w) (hs2 : (1048576 : Int) < (l2.length : Int)) :
    Calls Tryz.prog 4 #[.agg #[.int .i64 n0, .slice a0 l0.length c0], .agg #[.int .i64 n1, .slice a1 l1.length c1], .slice a2 l2.length c2] w fun e w' => e = .returned (.bool true) ∧ Below w.heap.size w w' := by
  clear hl0
  clear hl1
  clear hl2
  clear ht
  go_enter Tryz.func4, Tryz.ntmps4
  go_wp2_with fail
  go_ret
  exact ⟨rfl, (by repeat (first | exact Below.refl _ _ | refine Below.drew ?_ | refine below_drewN ?_ _ | refine Below.alloc ?_ (by simp; try omega) _))⟩
set_option maxHeartbeats 1000000 in
theorem walkBig0 (n0 : Int) (l0 : List RulD) (a0 : Option Addr) (c0 : Nat) (n1 : Int) (l1 : List Int) (a1 : Option Addr) (c1 : Nat) (l2 : List Int) (a2 : Option Addr) (c2 : Nat) (w : World) (hl0 : RulesIn w a0 l0) (hn0 : l0.length ≤ 9223372036854775807) (hm0 : SzR l0) (hl1 : IntsIn w a1 l1) (hn1 : l1.length ≤ 9223372036854775807) (hl2 : IntsIn w a2 l2) (hn2 : l2.length ≤ 9223372036854775807) (ht : Tab10 w) (hs2 : ¬ (1048576 : Int) < (l2.length : Int)) (hs0 : (1048576 : Int) < (l0.length : Int) + ruleSum l0) :
    Calls Tryz.prog 4 #[.agg #[.int .i64 n0, .slice a0 l0.length c0], .agg #[.int .i64 n1, .slice a1 l1.length c1], .slice a2 l2.length c2] w fun e w' => e = .returned (.bool true) ∧ Below w.heap.size w w' := by
  have HL0 := Lib.hid hl0
  have HM0 := Lib.hid hm0
  have HS0 := fun w hl => szSystem_any n0 l0 a0 c0 1048576 w hl hn0 hm0 (by omega) (by omega)
  clear hm0
  rw [szRF_big hs0] at HS0
  have HT0 := fun w hl => Lib.hid (HS0 w hl)
  clear HS0
  clear hl0
  clear hl1
  clear hl2
  clear ht
  go_enter Tryz.func4, Tryz.ntmps4
  go_wp2_with fail
  refine (HT0 _ (HL0.out.later (by repeat (first | exact Below.refl _ _ | refine Below.drew ?_ | refine below_drewN ?_ _ | refine Below.alloc ?_ (by simp; try omega) _)))).out.mono ?_
  rintro e u0 ⟨rfl, hb0⟩
  have hk0 : Below w.heap.size w u0 := Below.now (by repeat (first | exact Below.refl _ _ | refine Below.drew ?_ | refine below_drewN ?_ _ | refine Below.alloc ?_ (by simp; try omega) _)) hb0
  clear hb0
  go_wp2_with fail
  go_ret
  exact ⟨rfl, hk0⟩
set_option maxHeartbeats 1000000 in
theorem walkBig1 (n0 : Int) (l0 : List RulD) (a0 : Option Addr) (c0 : Nat) (n1 : Int) (l1 : List Int) (a1 : Option Addr) (c1 : Nat) (l2 : List Int) (a2 : Option Addr) (c2 : Nat) (w : World) (hl0 : RulesIn w a0 l0) (hn0 : l0.length ≤ 9223372036854775807) (hm0 : SzR l0) (hl1 : IntsIn w a1 l1) (hn1 : l1.length ≤ 9223372036854775807) (hl2 : IntsIn w a2 l2) (hn2 : l2.length ≤ 9223372036854775807) (ht : Tab10 w) (hs2 : ¬ (1048576 : Int) < (l2.length : Int)) (hs0 : ¬ (1048576 : Int) < (l0.length : Int) + ruleSum l0) (hs1 : ((1048576 - (l0.length : Int) - ruleSum l0) : Int) < (l1.length : Int)) :
    Calls Tryz.prog 4 #[.agg #[.int .i64 n0, .slice a0 l0.length c0], .agg #[.int .i64 n1, .slice a1 l1.length c1], .slice a2 l2.length c2] w fun e w' => e = .returned (.bool true) ∧ Below w.heap.size w w' := by
  have HL0 := Lib.hid hl0
  have HM0 := Lib.hid hm0
  have HS0 := fun w hl => szSystem_any n0 l0 a0 c0 1048576 w hl hn0 hm0 (by omega) (by omega)
  clear hm0
  rw [szRF_ok hs0] at HS0
  have HT0 := fun w hl => Lib.hid (HS0 w hl)
  clear HS0
  have HS1 := fun w => szTable_any n1 l1.length c1 a1 (1048576 - (l0.length : Int) - ruleSum l0) w (by omega) (by omega) (by omega)
  rw [if_pos hs1] at HS1
  have HT1 := fun w => Lib.hid (HS1 w)
  clear HS1
  clear hl0
  clear hl1
  clear hl2
  clear ht
  go_enter Tryz.func4, Tryz.ntmps4
  go_wp2_with fail
  refine (HT0 _ (HL0.out.later (by repeat (first | exact Below.refl _ _ | refine Below.drew ?_ | refine below_drewN ?_ _ | refine Below.alloc ?_ (by simp; try omega) _)))).out.mono ?_
  rintro e u0 ⟨rfl, hb0⟩
  have hk0 : Below w.heap.size w u0 := Below.now (by repeat (first | exact Below.refl _ _ | refine Below.drew ?_ | refine below_drewN ?_ _ | refine Below.alloc ?_ (by simp; try omega) _)) hb0
  have q10 : u0.cell? ⟨w.heap.size + 1, 0, none⟩ = some (.int .i64 n1) := by rw [hb0.cell (by simp; try omega)]; simp [go_sem]
  have q11 : u0.cell? ⟨w.heap.size + 1, 1, none⟩ = some (.slice a1 l1.length c1) := by rw [hb0.cell (by simp; try omega)]; simp [go_sem]
  clear hb0
  go_wp2_with fail
  refine (HT1 _).out.mono ?_
  rintro e u1 ⟨rfl, hb1⟩
  have hk1 : Below w.heap.size w u1 := Below.now hk0 hb1
  clear hb1
  go_wp2_with fail
  go_ret
  exact ⟨rfl, hk1⟩
set_option maxRecDepth 100000 in
set_option maxHeartbeats 2000000 in
theorem walkSmall (n0 : Int) (l0 : List RulD) (a0 : Option Addr) (c0 : Nat) (n1 : Int) (l1 : List Int) (a1 : Option Addr) (c1 : Nat) (l2 : List Int) (a2 : Option Addr) (c2 : Nat) (w : World) (hl0 : RulesIn w a0 l0) (hn0 : l0.length ≤ 9223372036854775807) (hm0 : SzR l0) (hl1 : IntsIn w a1 l1) (hn1 : l1.length ≤ 9223372036854775807) (hl2 : IntsIn w a2 l2) (hn2 : l2.length ≤ 9223372036854775807) (ht : Tab10 w) (hs2 : ¬ (1048576 : Int) < (l2.length : Int)) (hs0 : ¬ (1048576 : Int) < (l0.length : Int) + ruleSum l0) (hs1 : ¬ ((1048576 - (l0.length : Int) - ruleSum l0) : Int) < (l1.length : Int)) :
    Calls Tryz.prog 4 #[.agg #[.int .i64 n0, .slice a0 l0.length c0], .agg #[.int .i64 n1, .slice a1 l1.length c1], .slice a2 l2.length c2] w fun e w' => e = .returned (.bool true) ∧ Below w.heap.size w w' := by
  have HL0 := Lib.hid hl0
  have HM0 := Lib.hid hm0
  have HS0 := fun w hl => szSystem_any n0 l0 a0 c0 1048576 w hl hn0 hm0 (by omega) (by omega)
  clear hm0
  rw [szRF_ok hs0] at HS0
  have HT0 := fun w hl => Lib.hid (HS0 w hl)
  clear HS0
  have HS1 := fun w => szTable_any n1 l1.length c1 a1 (1048576 - (l0.length : Int) - ruleSum l0) w (by omega) (by omega) (by omega)
  rw [if_neg hs1] at HS1
  have HT1 := fun w => Lib.hid (HS1 w)
  clear HS1
  have hz2 : l2.length ≤ 1048576 := by omega
  have hz0 : l0.length + ruleSum l0 ≤ 1048576 := by omega
  have hz1 : l1.length ≤ 1048576 := by omega
  have hzS : l0.length + ruleSum l0 + l1.length ≤ 1048576 := by omega
  have HL1 := Lib.hid hl1
  have HL2 := Lib.hid hl2
  have HT10 := Lib.hid ht
  clear ht
  clear hl0
  clear hl1
  clear hl2
  clear hs2 hs0 hs1
  go_enter Tryz.func4, Tryz.ntmps4
  go_wp2_with fail
  refine (HT0 _ (HL0.out.later (by repeat (first | exact Below.refl _ _ | refine Below.drew ?_ | refine below_drewN ?_ _ | refine Below.alloc ?_ (by simp; try omega) _)))).out.mono ?_
  rintro e u0 ⟨rfl, hb0⟩
  have hk0 : Below w.heap.size w u0 := Below.now (by repeat (first | exact Below.refl _ _ | refine Below.drew ?_ | refine below_drewN ?_ _ | refine Below.alloc ?_ (by simp; try omega) _)) hb0
  have q00 : u0.cell? ⟨w.heap.size, 0, none⟩ = some (.int .i64 n0) := by rw [hb0.cell (by simp; try omega)]; simp [go_sem]
  have q01 : u0.cell? ⟨w.heap.size, 1, none⟩ = some (.slice a0 l0.length c0) := by rw [hb0.cell (by simp; try omega)]; simp [go_sem]
  have q10 : u0.cell? ⟨w.heap.size + 1, 0, none⟩ = some (.int .i64 n1) := by rw [hb0.cell (by simp; try omega)]; simp [go_sem]
  have q11 : u0.cell? ⟨w.heap.size + 1, 1, none⟩ = some (.slice a1 l1.length c1) := by rw [hb0.cell (by simp; try omega)]; simp [go_sem]
  clear hb0
  go_wp2_with fail
  refine (HT1 _).out.mono ?_
  rintro e u1 ⟨rfl, hb1⟩
  have hk1 : Below w.heap.size w u1 := Below.now hk0 hb1
  replace q00 := (hb1.cell (World.block_lt_of_cell? _ _ q00)).trans q00
  replace q01 := (hb1.cell (World.block_lt_of_cell? _ _ q01)).trans q01
  replace q10 := (hb1.cell (World.block_lt_of_cell? _ _ q10)).trans q10
  replace q11 := (hb1.cell (World.block_lt_of_cell? _ _ q11)).trans q11
  clear hb1
  have hbel := Lib.hid hk1
  clear hk0 hk1
  have x00 : ∀ W, Below u1.heap.size u1 W → W.cell? ⟨w.heap.size, 0, none⟩ = some (.int .i64 n0) := fun W hW => (hW.cell (World.block_lt_of_cell? _ _ q00)).trans q00
  have x01 : ∀ W, Below u1.heap.size u1 W → W.cell? ⟨w.heap.size, 1, none⟩ = some (.slice a0 l0.length c0) := fun W hW => (hW.cell (World.block_lt_of_cell? _ _ q01)).trans q01
  clear q00 q01
  have x10 : ∀ W, Below u1.heap.size u1 W → W.cell? ⟨w.heap.size + 1, 0, none⟩ = some (.int .i64 n1) := fun W hW => (hW.cell (World.block_lt_of_cell? _ _ q10)).trans q10
  have x11 : ∀ W, Below u1.heap.size u1 W → W.cell? ⟨w.heap.size + 1, 1, none⟩ = some (.slice a1 l1.length c1) := fun W hW => (hW.cell (World.block_lt_of_cell? _ _ q11)).trans q11
  clear q10 q11
  replace HL0 := Lib.hid (HL0.out.later hbel.out)
  replace HL1 := Lib.hid (HL1.out.later hbel.out)
  replace HL2 := Lib.hid (HL2.out.later hbel.out)
  have d1 := Below.refl u1.heap.size u1
  go_wp2_with fail
  clear d1
  refine region_each (fun W => Below u1.heap.size u1 W) (fun W W2 => Below W.heap.size W W2) (fun u => by simp only [fPut, Act.put, List.setIfInBounds_toArray, List.set_cons_succ, List.set_cons_zero, Nat.zero_add, Nat.reduceAdd]; rfl) (by kernel_rfl) (by kernel_rfl) (by kernel_rfl) (Below.drew (Below.refl _ _)) ?_
  apply each_read (fun _ => Below.refl _ _) rfl
  · intro u wv hC hf
    have z00 := x00 _ hC
    have z01 := x01 _ hC
    have z10 := x10 _ hC
    have z11 := x11 _ hC
    clear hf
    go_simp
    try rfl
  refine each_call (fun v wv => ∃ a c, v = .agg #[.int .i64 n0, .slice a l0.length c] ∧ RulesIn wv a l0) (fun v w w2 _ hR ⟨a, c, h1, h2⟩ => ⟨a, c, h1, h2.later hR⟩) rfl ?_ ?_
  · intro u wv hC hf
    have z00 := x00 _ hC
    have z01 := x01 _ hC
    have z10 := x10 _ hC
    have z11 := x11 _ hC
    obtain ⟨d0_0, -⟩ := hf
    have e0 : u 0 = _ := d0_0 rfl
    clear d0_0
    apply Exists.intro; apply Exists.intro; apply And.intro
    · go_simp; exact ⟨rfl, rfl⟩
    · refine (toSystem_any n0 l0 a0 c0 _ (HL0.out.later hC) (by omega)).mono ?_
      rintro e w3 ⟨ap, cp, rfl, ho, hb⟩
      exact ⟨_, rfl, Below.now hC hb, hb, ap, cp, rfl, owns_rules (l := l0) ho⟩
  apply each_read (fun _ => Below.refl _ _) rfl
  · intro u wv hC hf
    have z00 := x00 _ hC
    have z01 := x01 _ hC
    have z10 := x10 _ hC
    have z11 := x11 _ hC
    clear hf
    go_simp
    try rfl
  refine each_call (fun v wv => ∃ a c, v = .agg #[.int .i64 n1, .slice a l1.length c] ∧ IntsIn wv a l1) (fun v w w2 _ hR ⟨a, c, h1, h2⟩ => ⟨a, c, h1, h2.later hR⟩) rfl ?_ ?_
  · intro u wv hC hf
    have z00 := x00 _ hC
    have z01 := x01 _ hC
    have z10 := x10 _ hC
    have z11 := x11 _ hC
    obtain ⟨d2_0, d1_1, -⟩ := hf
    have e2 : u 2 = _ := d2_0 rfl
    clear d2_0
    obtain ⟨ap1, cp1, e1, r1⟩ := d1_1 rfl
    apply Exists.intro; apply Exists.intro; apply And.intro
    · go_simp; exact ⟨rfl, rfl⟩
    · refine (toTable_any n1 l1 a1 c1 _ (HL1.out.later hC) (by omega)).mono ?_
      rintro e w3 ⟨ap, cp, rfl, ho, hb⟩
      exact ⟨_, rfl, Below.now hC hb, hb, ap, cp, rfl, owns_ints (l := l1) ho⟩
  apply each_read (fun _ => Below.refl _ _) rfl
  · intro u wv hC hf
    have z00 := x00 _ hC
    have z01 := x01 _ hC
    have z10 := x10 _ hC
    have z11 := x11 _ hC
    clear hf
    go_simp
    try rfl
  refine each_call (fun v wv => ∃ a c, v = .slice a l2.length c ∧ IntsIn wv a l2) (fun v w w2 _ hR ⟨a, c, h1, h2⟩ => ⟨a, c, h1, h2.later hR⟩) rfl ?_ ?_
  · intro u wv hC hf
    have z00 := x00 _ hC
    have z01 := x01 _ hC
    have z10 := x10 _ hC
    have z11 := x11 _ hC
    obtain ⟨d4_0, d3_1, -⟩ := hf
    have e4 : u 4 = _ := d4_0 rfl
    clear d4_0
    obtain ⟨ap3, cp3, e3, r3⟩ := d3_1 rfl
    apply Exists.intro; apply Exists.intro; apply And.intro
    · go_simp; exact ⟨rfl, rfl⟩
    · refine (toIntS_any l2 a2 c2 _ (HL2.out.later hC) (by omega)).mono ?_
      rintro e w3 ⟨ap, cp, rfl, ho, hb⟩
      exact ⟨_, rfl, Below.now hC hb, hb, ap, cp, rfl, owns_ints (l := l2) ho⟩
  apply each_callR rfl
  · intro u wv hC hf
    have z00 := x00 _ hC
    have z01 := x01 _ hC
    have z10 := x10 _ hC
    have z11 := x11 _ hC
    obtain ⟨d1_0, d3_1, d5_2, d5_3, -⟩ := hf
    obtain ⟨ap1, cp1, e1, r1⟩ := d1_0 rfl
    obtain ⟨ap3, cp3, e3, r3⟩ := d3_1 rfl
    obtain ⟨ap5, cp5, e5, r5⟩ := d5_2 rfl
    clear d5_3
    apply Exists.intro; apply Exists.intro; apply And.intro
    · go_simp; exact ⟨rfl, rfl⟩
    · refine (specIsFaithful_fn n0 l0 ap1 cp1 n1 l1 ap3 cp3 l2 ap5 cp5 _ r1 (by omega) HM0.out r3 (by omega) r5 (by omega)).mono ?_
      rintro e w3 ⟨rfl, hb⟩
      exact ⟨rfl, Below.now hC hb, hb⟩
  apply each_read (fun _ => Below.refl _ _) rfl
  · intro u wv hC hf
    have z00 := x00 _ hC
    have z01 := x01 _ hC
    have z10 := x10 _ hC
    have z11 := x11 _ hC
    obtain ⟨d6_0, d6_1, d0_2, d1_3, d2_4, d3_5, d4_6, d5_7, d6_8, -⟩ := hf
    have e6 : u 6 = _ := d6_0 rfl
    clear d6_0
    clear d6_1
    have e0 : u 0 = _ := d0_2 rfl
    clear d0_2
    obtain ⟨ap1, cp1, e1, r1⟩ := d1_3 rfl
    have e2 : u 2 = _ := d2_4 rfl
    clear d2_4
    obtain ⟨ap3, cp3, e3, r3⟩ := d3_5 rfl
    have e4 : u 4 = _ := d4_6 rfl
    clear d4_6
    obtain ⟨ap5, cp5, e5, r5⟩ := d5_7 rfl
    clear d6_8
    go_simp
    try rfl
  intro u v4 d1 hall
  obtain ⟨a0, a1, a2, a3, a4, a5, a6, a7, -⟩ := hall
  have e0 : u 0 = _ := a0
  clear a0
  obtain ⟨ap1, cp1, e1, r1⟩ := a1
  replace e1 : u 1 = _ := e1
  have e2 : u 2 = _ := a2
  clear a2
  obtain ⟨ap3, cp3, e3, r3⟩ := a3
  replace e3 : u 3 = _ := e3
  have e4 : u 4 = _ := a4
  clear a4
  obtain ⟨ap5, cp5, e5, r5⟩ := a5
  replace e5 : u 5 = _ := e5
  have e6 : u 6 = _ := a6
  clear a6
  have e7 : u 7 = _ := a7
  clear a7
  simp only [e0, e1, e2, e3, e4, e5, e6, e7]
  clear e0 e1 e2 e3 e4 e5 e6 e7
  have sz3 : Hid (u1.heap.size ≤ v4.heap.size) := d1.size
  have d3 := Below.refl v4.heap.size v4
  go_wp2_with fail
  refine (toSystem_any n0 l0 a0 c0 _ (HL0.out.later (Below.now d1 (by repeat (first | exact Below.refl _ _ | refine Below.drew ?_ | refine below_drewN ?_ _ | refine Below.alloc ?_ (by simp; try omega) _)))) (by omega)).mono ?_
  rintro e v5 ⟨ax0, cx0, rfl, ho, hb⟩
  have hc : Below v4.heap.size v4 v5 := Below.now (by repeat (first | exact Below.refl _ _ | refine Below.drew ?_ | refine below_drewN ?_ _ | refine Below.alloc ?_ (by simp; try omega) _)) hb
  have hsz := hc.size
  replace d1 := Below.now d1 hc
  replace d3 := Below.now d3 hc
  have HOx0 : Hid (v5.ownsRow v4.heap.size 60 2 (.slice ax0 l0.length cx0) l0.length (ruleCells l0)) := owns_mono ho (by simp; try omega)
  have lox0 : Hid (v4.heap.size ≤ v5.heap.size) := hc.size
  clear ho hb hc hsz
  have ex0 := Below.refl v5.heap.size v5
  have y10 := fun o => x10 (v5.alloc o) (Below.now d1 (alloc_belowS v5 o))
  have y11 := fun o => x11 (v5.alloc o) (Below.now d1 (alloc_belowS v5 o))
  go_wp2_with fail
  clear y10 y11
  refine (toTable_any n1 l1 a1 c1 _ (HL1.out.later (Below.now d1 (by repeat (first | exact Below.refl _ _ | refine Below.drew ?_ | refine below_drewN ?_ _ | refine Below.alloc ?_ (by simp; try omega) _)))) (by omega)).mono ?_
  rintro e v6 ⟨ax1, cx1, rfl, ho, hb⟩
  have y00 : v6.cell? ⟨v5.heap.size, 0, none⟩ = some (.int .i64 n0) := by rw [hb.cell (by simp; try omega)]; simp [go_sem]
  have y01 : v6.cell? ⟨v5.heap.size, 1, none⟩ = some (.slice ax0 l0.length cx0) := by rw [hb.cell (by simp; try omega)]; simp [go_sem]
  have hc : Below v5.heap.size v5 v6 := Below.now (by repeat (first | exact Below.refl _ _ | refine Below.drew ?_ | refine below_drewN ?_ _ | refine Below.alloc ?_ (by simp; try omega) _)) hb
  have hsz := hc.size
  replace d1 := Below.now d1 hc
  replace d3 := Below.now d3 hc
  replace ex0 := Below.now ex0 hc
  have HOx1 : Hid (v6.ownsRow v5.heap.size 3 1 (.slice ax1 l1.length cx1) l1.length (l1.map (Value.int .i64))) := owns_mono ho (by simp; try omega)
  have lox1 : Hid (v5.heap.size ≤ v6.heap.size) := hc.size
  clear ho hb hc hsz
  have ex1 := Below.refl v6.heap.size v6
  go_wp2_with fail
  refine (toIntS_any l2 a2 c2 _ (HL2.out.later (Below.now d1 (by repeat (first | exact Below.refl _ _ | refine Below.drew ?_ | refine below_drewN ?_ _ | refine Below.alloc ?_ (by simp; try omega) _)))) (by omega)).mono ?_
  rintro e v7 ⟨ax2, cx2, rfl, ho, hb⟩
  replace y00 := ((Below.now (alloc_belowS v6 _) hb).cell (World.block_lt_of_cell? _ _ y00)).trans y00
  replace y01 := ((Below.now (alloc_belowS v6 _) hb).cell (World.block_lt_of_cell? _ _ y01)).trans y01
  have y10 : v7.cell? ⟨v6.heap.size, 0, none⟩ = some (.int .i64 n1) := by rw [hb.cell (by simp; try omega)]; simp [go_sem]
  have y11 : v7.cell? ⟨v6.heap.size, 1, none⟩ = some (.slice ax1 l1.length cx1) := by rw [hb.cell (by simp; try omega)]; simp [go_sem]
  have hc : Below v6.heap.size v6 v7 := Below.now (by repeat (first | exact Below.refl _ _ | refine Below.drew ?_ | refine below_drewN ?_ _ | refine Below.alloc ?_ (by simp; try omega) _)) hb
  have hsz := hc.size
  replace d1 := Below.now d1 hc
  replace d3 := Below.now d3 hc
  replace ex0 := Below.now ex0 hc
  replace ex1 := Below.now ex1 hc
  have HOx2 : Hid (v7.ownsRow v6.heap.size 3 1 (.slice ax2 l2.length cx2) l2.length (l2.map (Value.int .i64))) := owns_mono ho (by simp; try omega)
  have lox2 : Hid (v6.heap.size ≤ v7.heap.size) := hc.size
  clear ho hb hc hsz
  have ex2 := Below.refl v7.heap.size v7
  go_wp2_with fail
  refine (implIsFaithful_fn n0 l0 ax0 cx0 n1 l1 ax1 cx1 l2 ax2 cx2 _ ((owns_rules (l := l0) HOx0.out).later (Below.now ex0 (by repeat (first | exact Below.refl _ _ | refine Below.drew ?_ | refine below_drewN ?_ _ | refine Below.alloc ?_ (by simp; try omega) _)))) (by omega) HM0.out ((owns_ints (l := l1) HOx1.out).later (Below.now ex1 (by repeat (first | exact Below.refl _ _ | refine Below.drew ?_ | refine below_drewN ?_ _ | refine Below.alloc ?_ (by simp; try omega) _)))) (by omega) ((owns_ints (l := l2) HOx2.out).later (Below.now ex2 (by repeat (first | exact Below.refl _ _ | refine Below.drew ?_ | refine below_drewN ?_ _ | refine Below.alloc ?_ (by simp; try omega) _)))) (by omega) (HT10.out.later (Below.now hbel.out (Below.now d1 (by repeat (first | exact Below.refl _ _ | refine Below.drew ?_ | refine below_drewN ?_ _ | refine Below.alloc ?_ (by simp; try omega) _)))))).mono ?_
  rintro e v8 ⟨rfl, hb⟩
  replace y00 := (hb.cell (World.block_lt_of_cell? _ _ y00)).trans y00
  replace y01 := (hb.cell (World.block_lt_of_cell? _ _ y01)).trans y01
  replace y10 := (hb.cell (World.block_lt_of_cell? _ _ y10)).trans y10
  replace y11 := (hb.cell (World.block_lt_of_cell? _ _ y11)).trans y11
  have hc : Below v7.heap.size v7 v8 := Below.now (by repeat (first | exact Below.refl _ _ | refine Below.drew ?_ | refine below_drewN ?_ _ | refine Below.alloc ?_ (by simp; try omega) _)) hb
  have hsz := hc.size
  replace d1 := Below.now d1 hc
  replace d3 := Below.now d3 hc
  replace ex0 := Below.now ex0 hc
  replace ex1 := Below.now ex1 hc
  replace ex2 := Below.now ex2 hc
  clear hb hc hsz
  have d7 := Below.refl v8.heap.size v8
  have z00 : ∀ W, Below v8.heap.size v8 W → W.cell? ⟨v5.heap.size, 0, none⟩ = some (.int .i64 n0) := fun W hW => (hW.cell (World.block_lt_of_cell? _ _ y00)).trans y00
  have z01 : ∀ W, Below v8.heap.size v8 W → W.cell? ⟨v5.heap.size, 1, none⟩ = some (.slice ax0 l0.length cx0) := fun W hW => (hW.cell (World.block_lt_of_cell? _ _ y01)).trans y01
  clear y00 y01
  have z10 : ∀ W, Below v8.heap.size v8 W → W.cell? ⟨v6.heap.size, 0, none⟩ = some (.int .i64 n1) := fun W hW => (hW.cell (World.block_lt_of_cell? _ _ y10)).trans y10
  have z11 : ∀ W, Below v8.heap.size v8 W → W.cell? ⟨v6.heap.size, 1, none⟩ = some (.slice ax1 l1.length cx1) := fun W hW => (hW.cell (World.block_lt_of_cell? _ _ y11)).trans y11
  clear y10 y11
  go_wp2_with fail
  have r0 := x00 _ d1
  have r1 := x01 _ d1
  have r2 := z00 _ d7
  have r3 := z01 _ d7
  have Gx00 := Lib.hid x00
  have Gx01 := Lib.hid x01
  have Gx10 := Lib.hid x10
  have Gx11 := Lib.hid x11
  have Gz00 := Lib.hid z00
  have Gz01 := Lib.hid z01
  have Gz10 := Lib.hid z10
  have Gz11 := Lib.hid z11
  clear x00 x01 x10 x11 z00 z01 z10 z11
  have Gd1 := Lib.hid d1
  have Gd3 := Lib.hid d3
  have Gex0 := Lib.hid ex0
  have Gex1 := Lib.hid ex1
  have Gex2 := Lib.hid ex2
  have Gd7 := Lib.hid d7
  clear d1 d3 ex0 ex1 ex2 d7
  go_region_held3 (fun w' => w'.cell? ⟨w.heap.size, 0, none⟩ = some (.int .i64 n0) ∧ w'.cell? ⟨w.heap.size, 1, none⟩ = some (.slice a0 l0.length c0) ∧ w'.cell? ⟨v5.heap.size, 0, none⟩ = some (.int .i64 n0) ∧ w'.cell? ⟨v5.heap.size, 1, none⟩ = some (.slice ax0 l0.length cx0)) (go_keep) (first | (go_at_call 11; refine (toSystem_any n0 l0 a0 c0 _ (HL0.out.later (Below.now Gd1.out (Below.drew (Below.refl _ _)))) (by omega)).mono ?_; rintro e v9 ⟨aq, cq, rfl, ho, hb⟩; have k1 : Below v8.heap.size v8 v9 := Below.now (Below.drew (Below.refl _ _)) hb; have s0 := (k1.cell (World.block_lt_of_cell? v8 _ r0)).trans r0; have s1 := (k1.cell (World.block_lt_of_cell? v8 _ r1)).trans r1; have s2 := (k1.cell (World.block_lt_of_cell? v8 _ r2)).trans r2; have s3 := (k1.cell (World.block_lt_of_cell? v8 _ r3)).trans r3; have HLt := Lib.hid (owns_rules (l := l0) ho); clear ho hb) | (go_at_call 13; refine (eqSystem_same n0 l0 ax0 aq cx0 cq _ ((owns_rules (l := l0) HOx0.out).later (Below.now Gex0.out k1)) HLt.out (by omega)).mono ?_; rintro e v10 ⟨rfl, hb⟩; have k2 : Below v8.heap.size v8 v10 := Below.now k1 hb; have t0 := (k2.cell (World.block_lt_of_cell? v8 _ r0)).trans r0; have t1 := (k2.cell (World.block_lt_of_cell? v8 _ r1)).trans r1; have t2 := (k2.cell (World.block_lt_of_cell? v8 _ r2)).trans r2; have t3 := (k2.cell (World.block_lt_of_cell? v8 _ r3)).trans r3; clear hb))
  have hc := k2
  have d1 := Below.now Gd1.out hc
  have d3 := Below.now Gd3.out hc
  have ex0 := Below.now Gex0.out hc
  have ex1 := Below.now Gex1.out hc
  have ex2 := Below.now Gex2.out hc
  have d7 := Below.now Gd7.out hc
  have x00 := Gx00.out
  have x01 := Gx01.out
  have x10 := Gx10.out
  have x11 := Gx11.out
  have z00 := Gz00.out
  have z01 := Gz01.out
  have z10 := Gz10.out
  have z11 := Gz11.out
  clear r0 r1 r2 r3 s0 s1 s2 s3 t0 t1 t2 t3 k1 k2 hc HLt Gd1 Gd3 Gex0 Gex1 Gex2 Gd7 Gx00 Gx01 Gx10 Gx11 Gz00 Gz01 Gz10 Gz11
  go_wp2_with fail
  have r0 := x10 _ d1
  have r1 := x11 _ d1
  have r2 := z10 _ d7
  have r3 := z11 _ d7
  have Gx00 := Lib.hid x00
  have Gx01 := Lib.hid x01
  have Gx10 := Lib.hid x10
  have Gx11 := Lib.hid x11
  have Gz00 := Lib.hid z00
  have Gz01 := Lib.hid z01
  have Gz10 := Lib.hid z10
  have Gz11 := Lib.hid z11
  clear x00 x01 x10 x11 z00 z01 z10 z11
  have Gd1 := Lib.hid d1
  have Gd3 := Lib.hid d3
  have Gex0 := Lib.hid ex0
  have Gex1 := Lib.hid ex1
  have Gex2 := Lib.hid ex2
  have Gd7 := Lib.hid d7
  clear d1 d3 ex0 ex1 ex2 d7
  go_region_held3 (fun w' => w'.cell? ⟨w.heap.size + 1, 0, none⟩ = some (.int .i64 n1) ∧ w'.cell? ⟨w.heap.size + 1, 1, none⟩ = some (.slice a1 l1.length c1) ∧ w'.cell? ⟨v6.heap.size, 0, none⟩ = some (.int .i64 n1) ∧ w'.cell? ⟨v6.heap.size, 1, none⟩ = some (.slice ax1 l1.length cx1)) (go_keep) (first | (go_at_call 16; refine (toTable_any n1 l1 a1 c1 _ (HL1.out.later (Below.now Gd1.out (Below.drew (Below.refl _ _)))) (by omega)).mono ?_; rintro e v11 ⟨aq, cq, rfl, ho, hb⟩; have k1 : Below v10.heap.size v10 v11 := Below.now (Below.drew (Below.refl _ _)) hb; have s0 := (k1.cell (World.block_lt_of_cell? v10 _ r0)).trans r0; have s1 := (k1.cell (World.block_lt_of_cell? v10 _ r1)).trans r1; have s2 := (k1.cell (World.block_lt_of_cell? v10 _ r2)).trans r2; have s3 := (k1.cell (World.block_lt_of_cell? v10 _ r3)).trans r3; have HLt := Lib.hid (owns_ints (l := l1) ho); clear ho hb) | (go_at_call 19; refine (eqTable_same n1 l1 ax1 aq cx1 cq _ ((owns_ints (l := l1) HOx1.out).later (Below.now Gex1.out k1)) HLt.out (by omega)).mono ?_; rintro e v12 ⟨rfl, hb⟩; have k2 : Below v10.heap.size v10 v12 := Below.now k1 hb; have t0 := (k2.cell (World.block_lt_of_cell? v10 _ r0)).trans r0; have t1 := (k2.cell (World.block_lt_of_cell? v10 _ r1)).trans r1; have t2 := (k2.cell (World.block_lt_of_cell? v10 _ r2)).trans r2; have t3 := (k2.cell (World.block_lt_of_cell? v10 _ r3)).trans r3; clear hb))
  have hc := k2
  have d1 := Below.now Gd1.out hc
  have d3 := Below.now Gd3.out hc
  have ex0 := Below.now Gex0.out hc
  have ex1 := Below.now Gex1.out hc
  have ex2 := Below.now Gex2.out hc
  have d7 := Below.now Gd7.out hc
  have x00 := Gx00.out
  have x01 := Gx01.out
  have x10 := Gx10.out
  have x11 := Gx11.out
  have z00 := Gz00.out
  have z01 := Gz01.out
  have z10 := Gz10.out
  have z11 := Gz11.out
  clear r0 r1 r2 r3 s0 s1 s2 s3 t0 t1 t2 t3 k1 k2 hc HLt Gd1 Gd3 Gex0 Gex1 Gex2 Gd7 Gx00 Gx01 Gx10 Gx11 Gz00 Gz01 Gz10 Gz11
  go_wp2_with fail
  refine (toIntS_any l2 a2 c2 _ (HL2.out.later (Below.now d1 (by repeat (first | exact Below.refl _ _ | refine Below.drew ?_ | refine below_drewN ?_ _ | refine Below.alloc ?_ (by simp; try omega) _)))) (by omega)).mono ?_
  rintro e v13 ⟨at2, ct2, rfl, ho, hb⟩
  have hc : Below v12.heap.size v12 v13 := Below.now (by repeat (first | exact Below.refl _ _ | refine Below.drew ?_ | refine below_drewN ?_ _ | refine Below.alloc ?_ (by simp; try omega) _)) hb
  have hsz := hc.size
  replace d1 := Below.now d1 hc
  replace d3 := Below.now d3 hc
  replace ex0 := Below.now ex0 hc
  replace ex1 := Below.now ex1 hc
  replace ex2 := Below.now ex2 hc
  replace d7 := Below.now d7 hc
  have HOt2 : Hid (v13.ownsRow v12.heap.size 3 1 (.slice at2 l2.length ct2) l2.length (l2.map (Value.int .i64))) := owns_mono ho (by simp; try omega)
  have lot2 : Hid (v12.heap.size ≤ v13.heap.size) := hc.size
  clear ho hb hc hsz
  go_wp2_with fail
  refine (eqIntS_same l2 ax2 at2 _ _ _ ((owns_ints (l := l2) HOx2.out).later (Below.now ex2 (by repeat (first | exact Below.refl _ _ | refine Below.drew ?_ | refine below_drewN ?_ _ | refine Below.alloc ?_ (by simp; try omega) _)))) ((owns_ints (l := l2) HOt2.out).later (by repeat (first | exact Below.refl _ _ | refine Below.drew ?_ | refine below_drewN ?_ _ | refine Below.alloc ?_ (by simp; try omega) _))) (by omega)).mono ?_
  rintro e v14 ⟨rfl, hb⟩
  have hc : Below v13.heap.size v13 v14 := Below.now (by repeat (first | exact Below.refl _ _ | refine Below.drew ?_ | refine below_drewN ?_ _ | refine Below.alloc ?_ (by simp; try omega) _)) hb
  have hsz := hc.size
  replace d1 := Below.now d1 hc
  replace d3 := Below.now d3 hc
  replace ex0 := Below.now ex0 hc
  replace ex1 := Below.now ex1 hc
  replace ex2 := Below.now ex2 hc
  replace d7 := Below.now d7 hc
  clear hb hc hsz HOt2 lot2
  go_wp2_with fail
  go_ret
  exact ⟨rfl, Below.now hbel.out d1⟩
theorem walk (n0 : Int) (l0 : List RulD) (a0 : Option Addr) (c0 : Nat) (n1 : Int) (l1 : List Int) (a1 : Option Addr) (c1 : Nat) (l2 : List Int) (a2 : Option Addr) (c2 : Nat) (w : World) (hl0 : RulesIn w a0 l0) (hn0 : l0.length ≤ 9223372036854775807) (hm0 : SzR l0) (hl1 : IntsIn w a1 l1) (hn1 : l1.length ≤ 9223372036854775807) (hl2 : IntsIn w a2 l2) (hn2 : l2.length ≤ 9223372036854775807) (ht : Tab10 w) :
    Calls Tryz.prog 4 #[.agg #[.int .i64 n0, .slice a0 l0.length c0], .agg #[.int .i64 n1, .slice a1 l1.length c1], .slice a2 l2.length c2] w fun e w' => e = .returned (.bool true) ∧ Below w.heap.size w w' := by
  by_cases hs2 : (1048576 : Int) < (l2.length : Int)
  · exact walkBig2 n0 l0 a0 c0 n1 l1 a1 c1 l2 a2 c2 w hl0 hn0 hm0 hl1 hn1 hl2 hn2 ht  hs2
  by_cases hs0 : (1048576 : Int) < (l0.length : Int) + ruleSum l0
  · exact walkBig0 n0 l0 a0 c0 n1 l1 a1 c1 l2 a2 c2 w hl0 hn0 hm0 hl1 hn1 hl2 hn2 ht hs2 hs0
  by_cases hs1 : ((1048576 - (l0.length : Int) - ruleSum l0) : Int) < (l1.length : Int)
  · exact walkBig1 n0 l0 a0 c0 n1 l1 a1 c1 l2 a2 c2 w hl0 hn0 hm0 hl1 hn1 hl2 hn2 ht hs2 hs0 hs1
  exact walkSmall n0 l0 a0 c0 n1 l1 a1 c1 l2 a2 c2 w hl0 hn0 hm0 hl1 hn1 hl2 hn2 ht hs2 hs0 hs1
end Go.Proofs.YtggfhephdcnpcaaGreatDoor.fnExactIsFaithful
