/-
  The walk of 'FnExactSystemLine': SystemLine of the program and of the reference, called on copies of the arguments.
-/
import Derived.Test.YtdpfgdckgchpdaaGreatDoorGrp52
import Derived.Test.YtdpfgdckgchpdaaGreatDoorGrp51
import Derived.Test.YtdpfgdckgchpdaaGreatDoorGrp15
import Derived.Test.YtdpfgdckgchpdaaGreatDoorGrp07
import Derived.Deep.RegionHeld3
namespace Go.Proofs.YtdpfgdckgchpdaaGreatDoor
open Go.RowKit
set_option linter.unusedVariables false
/-- what toTable hands back -/
def RetTab (T : TypeId) (n : Int) (l : List Int) (w : World) (e : Ending) (w' : World) : Prop :=
  ∃ a cap, e = .returned (.agg #[.int .i64 n, .slice a l.length cap]) ∧ w'.ownsRow w.heap.size T 1 (.slice a l.length cap) l.length (l.map (Value.int .i64)) ∧ Below w.heap.size w w'
set_option maxHeartbeats 400000 in
theorem eqTable_same (n : Int) (l : List Int) (a1 a2 : Option Addr) (c1 c2 : Nat) (w : World) (h1 : IntsIn w a1 l) (h2 : IntsIn w a2 l) (hlen : l.length ≤ 2 ^ 47) :
    Calls Tryz.prog 16 #[.agg #[.int .i64 n, .slice a1 l.length c1], .agg #[.int .i64 n, .slice a2 l.length c2]] w fun e w' => e = .returned (.bool true) ∧ Below w.heap.size w w' := by
  have H1 := Lib.hid h1
  have H2 := Lib.hid h2
  clear h1 h2
  go_enter Tryz.func16, Tryz.ntmps16
  go_wp2_with fail
  have hbel : Below w.heap.size w ((w.alloc (.cells #[.int .i64 n, .slice a1 l.length c1] 35)).alloc (.cells #[.int .i64 n, .slice a2 l.length c2] 35)) := ((Below.refl _ _).alloc (Nat.le_refl _) _).alloc (by simp) _
  refine (eqIntS_same l a1 a2 c1 c2 _ (H1.out.later hbel) (H2.out.later hbel) hlen).mono ?_
  rintro e w2 ⟨rfl, hb2⟩
  have hbel2 := Below.now hbel hb2
  clear hbel hb2
  go_wp2_with fail
  go_ret
  exact ⟨rfl, hbel2⟩
set_option maxHeartbeats 400000 in
theorem markTable_any (n : Int) (len k cap base : Nat) (a : Option Addr) (xs : List Value) (w : World) (ho : w.ownsRow base 3 1 (.slice a len cap) len xs) (hk : k ≤ 10000000) (hn : len ≤ 10000000) :
    Calls Tryz.prog 19 #[.agg #[.int .i64 n, .slice a len cap], .int .i64 (k : Nat)] w fun e w' => e = .returned (.int .i64 ((k + len : Nat) : Int)) ∧ OnlyRow w a w' := by
  have HO := Lib.hid ho
  clear ho
  go_enter Tryz.func19, Tryz.ntmps19
  go_wp2_with fail
  refine (markIntS_any k len cap base a xs _ (HO.out.alloc _) hk hn).mono ?_
  rintro e w2 ⟨rfl, ho, hr⟩
  have hr2 : OnlyRow w a w2 := only_trans (World.grownBy_alloc w (.cells #[.int .i64 n, .slice a len cap] 35) _) hr
  clear ho hr
  go_wp2_with fail
  go_ret
  exact ⟨rfl, hr2⟩
theorem owns_only {w w' : World} {base : Nat} {T : TypeId} {size : Nat} {a a' : Option Addr} {n m cap : Nat} {xs : List Value} (h : w.ownsRow base T size (.slice a n cap) m xs) (hr : OnlyRow w a' w')
    (hne : ∀ x y, a = some x → a' = some y → x.block ≠ y.block) : w'.ownsRow base T size (.slice a n cap) m xs := by
  refine h.kept hr ?_
  cases a with
  | none => left; rfl
  | some x =>
    right
    cases a' with
    | none => simp [Value.ownBlock]
    | some y => simpa [Value.ownBlock] using hne x y rfl rfl
theorem below_only {B : Nat} {w w1 w' : World} {a : Option Addr} (h : Below B w w1) (hr : OnlyRow w1 a w') (hB : B ≤ w1.heap.size) (hlo : ∀ x, a = some x → B ≤ x.block) : Below B w w' :=
  h.grown hr hB (fun k hk => by
    cases a with
    | none => simp [Value.ownBlock] at hk
    | some x => simp only [Value.ownBlock, Option.some.injEq] at hk; rw [← hk]; exact hlo x rfl)
theorem owns_range {w : World} {base : Nat} {T : TypeId} {size : Nat} {a : Option Addr} {n m cap : Nat} {xs : List Value} (h : w.ownsRow base T size (.slice a n cap) m xs) : ∀ x, a = some x → base ≤ x.block ∧ x.block < w.heap.size := by
  rintro x rfl
  exact h.lt x.block rfl
end Go.Proofs.YtdpfgdckgchpdaaGreatDoor
namespace Go.Proofs.YtdpfgdckgchpdaaGreatDoor.fnExactSystemLine
open Go.ChangeShapes Go.WideShapes Go.ChangeAt Go.RowKit Go.Joins
open Go.ChangeMaps (open_string shut_string)
set_option linter.unusedVariables false
set_option maxHeartbeats 1000000 in
theorem walkBig0 (n0 : Int) (l0 : List RulD) (a0 : Option Addr) (c0 : Nat) (w : World) (hl0 : RulesIn w a0 l0) (hn0 : l0.length ≤ 9223372036854775807) (hm0 : SzR l0) (ht : Tab10 w) (hs0 : (1048576 : Int) < (l0.length : Int) + ruleSum l0) :
    Calls Tryz.prog 3 #[.agg #[.int .i64 n0, .slice a0 l0.length c0]] w fun e w' => e = .returned (.bool true) ∧ Below w.heap.size w w' := by
  have HL0 := Lib.hid hl0
  have HM0 := Lib.hid hm0
  have HS0 := fun w hl => szSystem_any n0 l0 a0 c0 1048576 w hl hn0 hm0 (by omega) (by omega)
  clear hm0
  rw [szRF_big hs0] at HS0
  have HT0 := fun w hl => Lib.hid (HS0 w hl)
  clear HS0
  clear hl0
  clear ht
  go_enter Tryz.func3, Tryz.ntmps3
  go_wp2_with fail
  refine (HT0 _ (HL0.out.later (by repeat (first | exact Below.refl _ _ | refine Below.drew ?_ | refine below_drewN ?_ _ | refine Below.alloc ?_ (by simp; try omega) _)))).out.mono ?_
  rintro e u0 ⟨rfl, hb0⟩
  have hk0 : Below w.heap.size w u0 := Below.now (by repeat (first | exact Below.refl _ _ | refine Below.drew ?_ | refine below_drewN ?_ _ | refine Below.alloc ?_ (by simp; try omega) _)) hb0
  clear hb0
  go_wp2_with fail
  go_ret
  exact ⟨rfl, hk0⟩
set_option maxRecDepth 100000 in
set_option maxHeartbeats 2000000 in
theorem walkSmall (n0 : Int) (l0 : List RulD) (a0 : Option Addr) (c0 : Nat) (w : World) (hl0 : RulesIn w a0 l0) (hn0 : l0.length ≤ 9223372036854775807) (hm0 : SzR l0) (ht : Tab10 w) (hs0 : ¬ (1048576 : Int) < (l0.length : Int) + ruleSum l0) :
    Calls Tryz.prog 3 #[.agg #[.int .i64 n0, .slice a0 l0.length c0]] w fun e w' => e = .returned (.bool true) ∧ Below w.heap.size w w' := by
  have HL0 := Lib.hid hl0
  have HM0 := Lib.hid hm0
  have HS0 := fun w hl => szSystem_any n0 l0 a0 c0 1048576 w hl hn0 hm0 (by omega) (by omega)
  clear hm0
  rw [szRF_ok hs0] at HS0
  have HT0 := fun w hl => Lib.hid (HS0 w hl)
  clear HS0
  have hz0 : l0.length + ruleSum l0 ≤ 1048576 := by omega
  have HT10 := Lib.hid ht
  clear ht
  clear hl0
  clear hs0
  go_enter Tryz.func3, Tryz.ntmps3
  go_wp2_with fail
  refine (HT0 _ (HL0.out.later (by repeat (first | exact Below.refl _ _ | refine Below.drew ?_ | refine below_drewN ?_ _ | refine Below.alloc ?_ (by simp; try omega) _)))).out.mono ?_
  rintro e u0 ⟨rfl, hb0⟩
  have hk0 : Below w.heap.size w u0 := Below.now (by repeat (first | exact Below.refl _ _ | refine Below.drew ?_ | refine below_drewN ?_ _ | refine Below.alloc ?_ (by simp; try omega) _)) hb0
  have q00 : u0.cell? ⟨w.heap.size, 0, none⟩ = some (.int .i64 n0) := by rw [hb0.cell (by simp; try omega)]; simp [go_sem]
  have q01 : u0.cell? ⟨w.heap.size, 1, none⟩ = some (.slice a0 l0.length c0) := by rw [hb0.cell (by simp; try omega)]; simp [go_sem]
  clear hb0
  have hbel := Lib.hid hk0
  clear hk0
  have x00 : ∀ W, Below u0.heap.size u0 W → W.cell? ⟨w.heap.size, 0, none⟩ = some (.int .i64 n0) := fun W hW => (hW.cell (World.block_lt_of_cell? _ _ q00)).trans q00
  have x01 : ∀ W, Below u0.heap.size u0 W → W.cell? ⟨w.heap.size, 1, none⟩ = some (.slice a0 l0.length c0) := fun W hW => (hW.cell (World.block_lt_of_cell? _ _ q01)).trans q01
  clear q00 q01
  replace HL0 := Lib.hid (HL0.out.later hbel.out)
  have d1 := Below.refl u0.heap.size u0
  go_wp2_with fail
  refine (toSystem_any n0 l0 a0 c0 _ (HL0.out.later (Below.now d1 (by repeat (first | exact Below.refl _ _ | refine Below.drew ?_ | refine below_drewN ?_ _ | refine Below.alloc ?_ (by simp; try omega) _)))) (by omega)).mono ?_
  rintro e v1 ⟨ap0, cp0, rfl, ho, hb⟩
  have hc : Below u0.heap.size u0 v1 := Below.now (by repeat (first | exact Below.refl _ _ | refine Below.drew ?_ | refine below_drewN ?_ _ | refine Below.alloc ?_ (by simp; try omega) _)) hb
  have hsz := hc.size
  replace d1 := Below.now d1 hc
  have HOp0 : Hid (v1.ownsRow u0.heap.size 60 2 (.slice ap0 l0.length cp0) l0.length (ruleCells l0)) := owns_mono ho (by simp; try omega)
  have lop0 : Hid (u0.heap.size ≤ v1.heap.size) := hc.size
  clear ho hb hc hsz
  have ep0 := Below.refl v1.heap.size v1
  go_wp2_with fail
  refine (specSystemLine_fn n0 l0 ap0 cp0 _ ((owns_rules (l := l0) HOp0.out).later (Below.now ep0 (by repeat (first | exact Below.refl _ _ | refine Below.drew ?_ | refine below_drewN ?_ _ | refine Below.alloc ?_ (by simp; try omega) _)))) (by omega) HM0.out).mono ?_
  rintro e v2 ⟨rfl, hb⟩
  have hc : Below v1.heap.size v1 v2 := Below.now (by repeat (first | exact Below.refl _ _ | refine Below.drew ?_ | refine below_drewN ?_ _ | refine Below.alloc ?_ (by simp; try omega) _)) hb
  have hsz := hc.size
  replace d1 := Below.now d1 hc
  replace ep0 := Below.now ep0 hc
  clear HOp0 lop0 ep0
  clear hb hc hsz
  have sz3 : Hid (u0.heap.size ≤ v2.heap.size) := d1.size
  have d3 := Below.refl v2.heap.size v2
  go_wp2_with fail
  refine (toSystem_any n0 l0 a0 c0 _ (HL0.out.later (Below.now d1 (by repeat (first | exact Below.refl _ _ | refine Below.drew ?_ | refine below_drewN ?_ _ | refine Below.alloc ?_ (by simp; try omega) _)))) (by omega)).mono ?_
  rintro e v3 ⟨ax0, cx0, rfl, ho, hb⟩
  have hc : Below v2.heap.size v2 v3 := Below.now (by repeat (first | exact Below.refl _ _ | refine Below.drew ?_ | refine below_drewN ?_ _ | refine Below.alloc ?_ (by simp; try omega) _)) hb
  have hsz := hc.size
  replace d1 := Below.now d1 hc
  replace d3 := Below.now d3 hc
  have HOx0 : Hid (v3.ownsRow v2.heap.size 60 2 (.slice ax0 l0.length cx0) l0.length (ruleCells l0)) := owns_mono ho (by simp; try omega)
  have lox0 : Hid (v2.heap.size ≤ v3.heap.size) := hc.size
  clear ho hb hc hsz
  have ex0 := Below.refl v3.heap.size v3
  go_wp2_with fail
  refine (implSystemLine_fn n0 l0 ax0 cx0 _ ((owns_rules (l := l0) HOx0.out).later (Below.now ex0 (by repeat (first | exact Below.refl _ _ | refine Below.drew ?_ | refine below_drewN ?_ _ | refine Below.alloc ?_ (by simp; try omega) _)))) (by omega) HM0.out (HT10.out.later (Below.now hbel.out (Below.now d1 (by repeat (first | exact Below.refl _ _ | refine Below.drew ?_ | refine below_drewN ?_ _ | refine Below.alloc ?_ (by simp; try omega) _)))))).mono ?_
  rintro e v4 ⟨rfl, hb⟩
  have y00 : v4.cell? ⟨v3.heap.size, 0, none⟩ = some (.int .i64 n0) := by rw [hb.cell (by simp; try omega)]; simp [go_sem]
  have y01 : v4.cell? ⟨v3.heap.size, 1, none⟩ = some (.slice ax0 l0.length cx0) := by rw [hb.cell (by simp; try omega)]; simp [go_sem]
  have hc : Below v3.heap.size v3 v4 := Below.now (by repeat (first | exact Below.refl _ _ | refine Below.drew ?_ | refine below_drewN ?_ _ | refine Below.alloc ?_ (by simp; try omega) _)) hb
  have hsz := hc.size
  replace d1 := Below.now d1 hc
  replace d3 := Below.now d3 hc
  replace ex0 := Below.now ex0 hc
  clear hb hc hsz
  have d7 := Below.refl v4.heap.size v4
  have z00 : ∀ W, Below v4.heap.size v4 W → W.cell? ⟨v3.heap.size, 0, none⟩ = some (.int .i64 n0) := fun W hW => (hW.cell (World.block_lt_of_cell? _ _ y00)).trans y00
  have z01 : ∀ W, Below v4.heap.size v4 W → W.cell? ⟨v3.heap.size, 1, none⟩ = some (.slice ax0 l0.length cx0) := fun W hW => (hW.cell (World.block_lt_of_cell? _ _ y01)).trans y01
  clear y00 y01
  go_wp2_with fail
  have r0 := x00 _ d1
  have r1 := x01 _ d1
  have r2 := z00 _ d7
  have r3 := z01 _ d7
  have Gx00 := Lib.hid x00
  have Gx01 := Lib.hid x01
  have Gz00 := Lib.hid z00
  have Gz01 := Lib.hid z01
  clear x00 x01 z00 z01
  have Gd1 := Lib.hid d1
  have Gd3 := Lib.hid d3
  have Gex0 := Lib.hid ex0
  have Gd7 := Lib.hid d7
  clear d1 d3 ex0 d7
  go_region_held3 (fun w' => w'.cell? ⟨w.heap.size, 0, none⟩ = some (.int .i64 n0) ∧ w'.cell? ⟨w.heap.size, 1, none⟩ = some (.slice a0 l0.length c0) ∧ w'.cell? ⟨v3.heap.size, 0, none⟩ = some (.int .i64 n0) ∧ w'.cell? ⟨v3.heap.size, 1, none⟩ = some (.slice ax0 l0.length cx0)) (go_keep) (first | (go_at_call 11; refine (toSystem_any n0 l0 a0 c0 _ (HL0.out.later (Below.now Gd1.out (Below.drew (Below.refl _ _)))) (by omega)).mono ?_; rintro e v5 ⟨aq, cq, rfl, ho, hb⟩; have k1 : Below v4.heap.size v4 v5 := Below.now (Below.drew (Below.refl _ _)) hb; have s0 := (k1.cell (World.block_lt_of_cell? v4 _ r0)).trans r0; have s1 := (k1.cell (World.block_lt_of_cell? v4 _ r1)).trans r1; have s2 := (k1.cell (World.block_lt_of_cell? v4 _ r2)).trans r2; have s3 := (k1.cell (World.block_lt_of_cell? v4 _ r3)).trans r3; have HLt := Lib.hid (owns_rules (l := l0) ho); clear ho hb) | (go_at_call 13; refine (eqSystem_same n0 l0 ax0 aq cx0 cq _ ((owns_rules (l := l0) HOx0.out).later (Below.now Gex0.out k1)) HLt.out (by omega)).mono ?_; rintro e v6 ⟨rfl, hb⟩; have k2 : Below v4.heap.size v4 v6 := Below.now k1 hb; have t0 := (k2.cell (World.block_lt_of_cell? v4 _ r0)).trans r0; have t1 := (k2.cell (World.block_lt_of_cell? v4 _ r1)).trans r1; have t2 := (k2.cell (World.block_lt_of_cell? v4 _ r2)).trans r2; have t3 := (k2.cell (World.block_lt_of_cell? v4 _ r3)).trans r3; clear hb))
  have hc := k2
  have d1 := Below.now Gd1.out hc
  have d3 := Below.now Gd3.out hc
  have ex0 := Below.now Gex0.out hc
  have d7 := Below.now Gd7.out hc
  have x00 := Gx00.out
  have x01 := Gx01.out
  have z00 := Gz00.out
  have z01 := Gz01.out
  clear r0 r1 r2 r3 s0 s1 s2 s3 t0 t1 t2 t3 k1 k2 hc HLt Gd1 Gd3 Gex0 Gd7 Gx00 Gx01 Gz00 Gz01
  go_wp2_with fail
  go_ret
  exact ⟨rfl, Below.now hbel.out d1⟩
theorem walk (n0 : Int) (l0 : List RulD) (a0 : Option Addr) (c0 : Nat) (w : World) (hl0 : RulesIn w a0 l0) (hn0 : l0.length ≤ 9223372036854775807) (hm0 : SzR l0) (ht : Tab10 w) :
    Calls Tryz.prog 3 #[.agg #[.int .i64 n0, .slice a0 l0.length c0]] w fun e w' => e = .returned (.bool true) ∧ Below w.heap.size w w' := by
  by_cases hs0 : (1048576 : Int) < (l0.length : Int) + ruleSum l0
  · exact walkBig0 n0 l0 a0 c0 w hl0 hn0 hm0 ht  hs0
  exact walkSmall n0 l0 a0 c0 w hl0 hn0 hm0 ht hs0
end Go.Proofs.YtdpfgdckgchpdaaGreatDoor.fnExactSystemLine
