/-
  The walk of 'FnExactFillPattern': FillPattern of the program and of the reference, called on copies of the arguments.
-/
import Derived.Test.YtldkghfnlkbmpaaFillI
import Derived.Test.YtldkghfnlkbmpaaTabHelp
import Derived.Test.YtldkghfnlkbmpaaLift
import Derived.Deep.RegionHeld3
namespace Go.Proofs.Ytldkghfnlkbmpaa.fnExactFillPattern
open Go.ChangeShapes Go.WideShapes Go.ChangeAt Go.RowKit Go.Joins
open Go.ChangeMaps (open_string shut_string)
set_option linter.unusedVariables false
set_option maxHeartbeats 1000000 in
theorem walkBig0 (s0 : ByteArray) (l1 : List ByteArray) (a1 : Option Addr) (c1 : Nat) (w : World) (hn0 : s0.size ≤ maxLen) (hl1 : StrsIn w a1 l1) (hn1 : l1.length ≤ 9223372036854775807) (hm1 : ∀ j, j < l1.length → (nthS l1 j).size ≤ maxLen) (hs0 : (1048576 : Int) < (s0.size : Int)) :
    Calls Try.prog 9 #[.string s0, .slice a1 l1.length c1] w fun e w' => e = .returned (.bool true) ∧ Below w.heap.size w w' := by
  unfold maxLen at hn0
  have HL1 := Lib.hid hl1
  clear hl1
  go_enter Try.func9, Try.ntmps9
  go_wp2_with fail
  go_ret
  exact ⟨rfl, (by repeat (first | exact Below.refl _ _ | refine Below.drew ?_ | refine below_drewN ?_ _ | refine Below.alloc ?_ (by simp; try omega) _))⟩
set_option maxHeartbeats 1000000 in
theorem walkBig1 (s0 : ByteArray) (l1 : List ByteArray) (a1 : Option Addr) (c1 : Nat) (w : World) (hn0 : s0.size ≤ maxLen) (hl1 : StrsIn w a1 l1) (hn1 : l1.length ≤ 9223372036854775807) (hm1 : ∀ j, j < l1.length → (nthS l1 j).size ≤ maxLen) (hs0 : ¬ (1048576 : Int) < (s0.size : Int)) (hs1 : (1048576 : Int) < ((l1.length : Int) + (strSum l1 : Nat))) :
    Calls Try.prog 9 #[.string s0, .slice a1 l1.length c1] w fun e w' => e = .returned (.bool true) ∧ Below w.heap.size w w' := by
  unfold maxLen at hn0
  have HL1 := Lib.hid hl1
  have HS1 := fun w hl => szStringS_any l1 a1 c1 1048576 w hl hn1 hm1 (by omega) (by omega)
  rw [szF_big hs1] at HS1
  have HT1 := fun w hl => Lib.hid (HS1 w hl)
  clear HS1
  clear hl1
  go_enter Try.func9, Try.ntmps9
  go_wp2_with fail
  refine (HT1 _ (HL1.out.later (by repeat (first | exact Below.refl _ _ | refine Below.drew ?_ | refine below_drewN ?_ _ | refine Below.alloc ?_ (by simp; try omega) _)))).out.mono ?_
  rintro e w' ⟨rfl, rfl⟩
  go_wp2_with fail
  go_ret
  exact ⟨rfl, (by repeat (first | exact Below.refl _ _ | refine Below.drew ?_ | refine below_drewN ?_ _ | refine Below.alloc ?_ (by simp; try omega) _))⟩
set_option maxRecDepth 100000 in
set_option maxHeartbeats 2000000 in
theorem walkSmall (s0 : ByteArray) (l1 : List ByteArray) (a1 : Option Addr) (c1 : Nat) (w : World) (hn0 : s0.size ≤ maxLen) (hl1 : StrsIn w a1 l1) (hn1 : l1.length ≤ 9223372036854775807) (hm1 : ∀ j, j < l1.length → (nthS l1 j).size ≤ maxLen) (hs0 : ¬ (1048576 : Int) < (s0.size : Int)) (hs1 : ¬ (1048576 : Int) < ((l1.length : Int) + (strSum l1 : Nat))) :
    Calls Try.prog 9 #[.string s0, .slice a1 l1.length c1] w fun e w' => e = .returned (.bool true) ∧ Below w.heap.size w w' := by
  have HN0 := Lib.hid hn0
  unfold maxLen at hn0
  have HS1 := fun w hl => szStringS_any l1 a1 c1 1048576 w hl hn1 hm1 (by omega) (by omega)
  rw [szF_ok hs1] at HS1
  have HT1 := fun w hl => Lib.hid (HS1 w hl)
  clear HS1
  have hz0 : s0.size ≤ 1048576 := by omega
  have hz1 : l1.length + strSum l1 ≤ 1048576 := by omega
  have HL1 := Lib.hid hl1
  clear hl1
  clear hs0 hs1
  go_enter Try.func9, Try.ntmps9
  go_wp2_with fail
  refine (HT1 _ (HL1.out.later (by repeat (first | exact Below.refl _ _ | refine Below.drew ?_ | refine below_drewN ?_ _ | refine Below.alloc ?_ (by simp; try omega) _)))).out.mono ?_
  rintro e u0 ⟨rfl, hb0⟩
  have hk0 : Below w.heap.size w u0 := by rw [← hb0]; exact (by repeat (first | exact Below.refl _ _ | refine Below.drew ?_ | refine below_drewN ?_ _ | refine Below.alloc ?_ (by simp; try omega) _))
  clear hb0
  have hbel := Lib.hid hk0
  clear hk0
  replace HL1 := Lib.hid (HL1.out.later hbel.out)
  have d1 := Below.refl u0.heap.size u0
  go_wp2_with fail
  refine (toStringS_any l1 a1 c1 _ (HL1.out.later (Below.now d1 (by repeat (first | exact Below.refl _ _ | refine Below.drew ?_ | refine below_drewN ?_ _ | refine Below.alloc ?_ (by simp; try omega) _)))) (by omega)).mono ?_
  rintro e v1 ⟨ap1, cp1, rfl, ho, hb⟩
  have hc : Below u0.heap.size u0 v1 := Below.now (by repeat (first | exact Below.refl _ _ | refine Below.drew ?_ | refine below_drewN ?_ _ | refine Below.alloc ?_ (by simp; try omega) _)) hb
  have hsz := hc.size
  replace d1 := Below.now d1 hc
  have HOp1 : Hid (v1.ownsRow u0.heap.size 9 1 (.slice ap1 l1.length cp1) l1.length (strVals l1)) := owns_mono ho (by simp; try omega)
  have lop1 : Hid (u0.heap.size ≤ v1.heap.size) := hc.size
  clear ho hb hc hsz
  have ep1 := Below.refl v1.heap.size v1
  go_wp2_with fail
  refine (specFillPattern_any s0 l1 ap1 cp1 _ HN0.out ((owns_strs (l := l1) HOp1.out).later (Below.now ep1 (by repeat (first | exact Below.refl _ _ | refine Below.drew ?_ | refine below_drewN ?_ _ | refine Below.alloc ?_ (by simp; try omega) _)))) (by omega) (by omega)).mono ?_
  rintro e v2 ⟨rfl, hb⟩
  have hc : Below v1.heap.size v1 v2 := Below.now (by repeat (first | exact Below.refl _ _ | refine Below.drew ?_ | refine below_drewN ?_ _ | refine Below.alloc ?_ (by simp; try omega) _)) hb
  have hsz := hc.size
  replace d1 := Below.now d1 hc
  replace ep1 := Below.now ep1 hc
  clear HOp1 lop1 ep1
  clear hb hc hsz
  have sz3 : Hid (u0.heap.size ≤ v2.heap.size) := d1.size
  have d3 := Below.refl v2.heap.size v2
  go_wp2_with fail
  refine (toStringS_any l1 a1 c1 _ (HL1.out.later (Below.now d1 (by repeat (first | exact Below.refl _ _ | refine Below.drew ?_ | refine below_drewN ?_ _ | refine Below.alloc ?_ (by simp; try omega) _)))) (by omega)).mono ?_
  rintro e v3 ⟨ax1, cx1, rfl, ho, hb⟩
  have hc : Below v2.heap.size v2 v3 := Below.now (by repeat (first | exact Below.refl _ _ | refine Below.drew ?_ | refine below_drewN ?_ _ | refine Below.alloc ?_ (by simp; try omega) _)) hb
  have hsz := hc.size
  replace d1 := Below.now d1 hc
  replace d3 := Below.now d3 hc
  have HOx1 : Hid (v3.ownsRow v2.heap.size 9 1 (.slice ax1 l1.length cx1) l1.length (strVals l1)) := owns_mono ho (by simp; try omega)
  have lox1 : Hid (v2.heap.size ≤ v3.heap.size) := hc.size
  clear ho hb hc hsz
  have ex1 := Below.refl v3.heap.size v3
  go_wp2_with fail
  refine (implFillPattern_any s0 l1 ax1 cx1 _ HN0.out ((owns_strs (l := l1) HOx1.out).later (Below.now ex1 (by repeat (first | exact Below.refl _ _ | refine Below.drew ?_ | refine below_drewN ?_ _ | refine Below.alloc ?_ (by simp; try omega) _)))) (by omega) (by omega)).mono ?_
  rintro e v4 ⟨rfl, hb⟩
  have hc : Below v3.heap.size v3 v4 := Below.now (by repeat (first | exact Below.refl _ _ | refine Below.drew ?_ | refine below_drewN ?_ _ | refine Below.alloc ?_ (by simp; try omega) _)) hb
  have hsz := hc.size
  replace d1 := Below.now d1 hc
  replace d3 := Below.now d3 hc
  replace ex1 := Below.now ex1 hc
  clear hb hc hsz
  have d7 := Below.refl v4.heap.size v4
  go_wp2_with fail
  refine (toStringS_any l1 a1 c1 _ (HL1.out.later (Below.now d1 (by repeat (first | exact Below.refl _ _ | refine Below.drew ?_ | refine below_drewN ?_ _ | refine Below.alloc ?_ (by simp; try omega) _)))) (by omega)).mono ?_
  rintro e v5 ⟨at1, ct1, rfl, ho, hb⟩
  have hc : Below v4.heap.size v4 v5 := Below.now (by repeat (first | exact Below.refl _ _ | refine Below.drew ?_ | refine below_drewN ?_ _ | refine Below.alloc ?_ (by simp; try omega) _)) hb
  have hsz := hc.size
  replace d1 := Below.now d1 hc
  replace d3 := Below.now d3 hc
  replace ex1 := Below.now ex1 hc
  replace d7 := Below.now d7 hc
  have HOt1 : Hid (v5.ownsRow v4.heap.size 9 1 (.slice at1 l1.length ct1) l1.length (strVals l1)) := owns_mono ho (by simp; try omega)
  have lot1 : Hid (v4.heap.size ≤ v5.heap.size) := hc.size
  clear ho hb hc hsz
  go_wp2_with fail
  refine (eqStringS_same l1 ax1 at1 _ _ _ ((owns_strs (l := l1) HOx1.out).later (Below.now ex1 (by repeat (first | exact Below.refl _ _ | refine Below.drew ?_ | refine below_drewN ?_ _ | refine Below.alloc ?_ (by simp; try omega) _)))) ((owns_strs (l := l1) HOt1.out).later (by repeat (first | exact Below.refl _ _ | refine Below.drew ?_ | refine below_drewN ?_ _ | refine Below.alloc ?_ (by simp; try omega) _))) (by omega)).mono ?_
  rintro e v6 ⟨rfl, hb⟩
  have hc : Below v5.heap.size v5 v6 := Below.now (by repeat (first | exact Below.refl _ _ | refine Below.drew ?_ | refine below_drewN ?_ _ | refine Below.alloc ?_ (by simp; try omega) _)) hb
  have hsz := hc.size
  replace d1 := Below.now d1 hc
  replace d3 := Below.now d3 hc
  replace ex1 := Below.now ex1 hc
  replace d7 := Below.now d7 hc
  clear hb hc hsz HOt1 lot1
  go_wp2_with fail
  go_ret
  exact ⟨rfl, Below.now hbel.out d1⟩
theorem walk (s0 : ByteArray) (l1 : List ByteArray) (a1 : Option Addr) (c1 : Nat) (w : World) (hn0 : s0.size ≤ maxLen) (hl1 : StrsIn w a1 l1) (hn1 : l1.length ≤ 9223372036854775807) (hm1 : ∀ j, j < l1.length → (nthS l1 j).size ≤ maxLen) :
    Calls Try.prog 9 #[.string s0, .slice a1 l1.length c1] w fun e w' => e = .returned (.bool true) ∧ Below w.heap.size w w' := by
  by_cases hs0 : (1048576 : Int) < (s0.size : Int)
  · exact walkBig0 s0 l1 a1 c1 w hn0 hl1 hn1 hm1  hs0
  by_cases hs1 : (1048576 : Int) < ((l1.length : Int) + (strSum l1 : Nat))
  · exact walkBig1 s0 l1 a1 c1 w hn0 hl1 hn1 hm1 hs0 hs1
  exact walkSmall s0 l1 a1 c1 w hn0 hl1 hn1 hm1 hs0 hs1
end Go.Proofs.Ytldkghfnlkbmpaa.fnExactFillPattern
