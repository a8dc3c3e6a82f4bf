/-
  The walk of 'FnExactCodeLine': CodeLine of the program and of the reference, called on copies of the arguments.
-/
import Derived.Test.YtlldhmoiahcfpaaCodeLine
import Derived.Test.YtlldhmoiahcfpaaStrHelp
import Derived.Test.YtlldhmoiahcfpaaTabHelp
import Derived.Test.YtlldhmoiahcfpaaLift
import Derived.Deep.RegionHeld3
namespace Go.Proofs.Ytlldhmoiahcfpaa.fnExactCodeLine
open Go.ChangeShapes Go.WideShapes Go.ChangeAt Go.RowKit Go.Joins
open Go.ChangeMaps (open_string shut_string)
set_option linter.unusedVariables false
set_option maxHeartbeats 1000000 in
theorem walkBig0 (l0 : List ByteArray) (a0 : Option Addr) (c0 : Nat) (w : World) (hl0 : StrsIn w a0 l0) (hn0 : l0.length ≤ 9223372036854775807) (hm0 : ∀ j, j < l0.length → (nthS l0 j).size ≤ maxLen) (hs0 : (1048576 : Int) < ((l0.length : Int) + (strSum l0 : Nat))) :
    Calls Try.prog 3 #[.slice a0 l0.length c0] w fun e w' => e = .returned (.bool true) ∧ Below w.heap.size w w' := by
  have HL0 := Lib.hid hl0
  have HS0 := fun w hl => szStringS_any l0 a0 c0 1048576 w hl hn0 hm0 (by omega) (by omega)
  rw [szF_big hs0] at HS0
  have HT0 := fun w hl => Lib.hid (HS0 w hl)
  clear HS0
  clear hl0
  go_enter Try.func3, Try.ntmps3
  go_wp2_with fail
  refine (HT0 _ (HL0.out.later (by repeat (first | exact Below.refl _ _ | refine Below.drew ?_ | refine below_drewN ?_ _ | refine Below.alloc ?_ (by simp; try omega) _)))).out.mono ?_
  rintro e w' ⟨rfl, rfl⟩
  go_wp2_with fail
  go_ret
  exact ⟨rfl, (by repeat (first | exact Below.refl _ _ | refine Below.drew ?_ | refine below_drewN ?_ _ | refine Below.alloc ?_ (by simp; try omega) _))⟩
set_option maxRecDepth 100000 in
set_option maxHeartbeats 2000000 in
theorem walkSmall (l0 : List ByteArray) (a0 : Option Addr) (c0 : Nat) (w : World) (hl0 : StrsIn w a0 l0) (hn0 : l0.length ≤ 9223372036854775807) (hm0 : ∀ j, j < l0.length → (nthS l0 j).size ≤ maxLen) (hs0 : ¬ (1048576 : Int) < ((l0.length : Int) + (strSum l0 : Nat))) :
    Calls Try.prog 3 #[.slice a0 l0.length c0] w fun e w' => e = .returned (.bool true) ∧ Below w.heap.size w w' := by
  have HS0 := fun w hl => szStringS_any l0 a0 c0 1048576 w hl hn0 hm0 (by omega) (by omega)
  rw [szF_ok hs0] at HS0
  have HT0 := fun w hl => Lib.hid (HS0 w hl)
  clear HS0
  have hz0 : l0.length + strSum l0 ≤ 1048576 := by omega
  have HL0 := Lib.hid hl0
  clear hl0
  clear hs0
  go_enter Try.func3, Try.ntmps3
  go_wp2_with fail
  refine (HT0 _ (HL0.out.later (by repeat (first | exact Below.refl _ _ | refine Below.drew ?_ | refine below_drewN ?_ _ | refine Below.alloc ?_ (by simp; try omega) _)))).out.mono ?_
  rintro e u0 ⟨rfl, hb0⟩
  have hk0 : Below w.heap.size w u0 := by rw [← hb0]; exact (by repeat (first | exact Below.refl _ _ | refine Below.drew ?_ | refine below_drewN ?_ _ | refine Below.alloc ?_ (by simp; try omega) _))
  clear hb0
  have hbel := Lib.hid hk0
  clear hk0
  replace HL0 := Lib.hid (HL0.out.later hbel.out)
  have d1 := Below.refl u0.heap.size u0
  go_wp2_with fail
  refine (toStringS_any l0 a0 c0 _ (HL0.out.later (Below.now d1 (by repeat (first | exact Below.refl _ _ | refine Below.drew ?_ | refine below_drewN ?_ _ | refine Below.alloc ?_ (by simp; try omega) _)))) (by omega)).mono ?_
  rintro e v1 ⟨ap0, cp0, rfl, ho, hb⟩
  have hc : Below u0.heap.size u0 v1 := Below.now (by repeat (first | exact Below.refl _ _ | refine Below.drew ?_ | refine below_drewN ?_ _ | refine Below.alloc ?_ (by simp; try omega) _)) hb
  have hsz := hc.size
  replace d1 := Below.now d1 hc
  have HOp0 : Hid (v1.ownsRow u0.heap.size 9 1 (.slice ap0 l0.length cp0) l0.length (strVals l0)) := owns_mono ho (by simp; try omega)
  have lop0 : Hid (u0.heap.size ≤ v1.heap.size) := hc.size
  clear ho hb hc hsz
  have ep0 := Below.refl v1.heap.size v1
  go_wp2_with fail
  refine (specCodeLine_any l0 ap0 cp0 _ ((owns_strs (l := l0) HOp0.out).later (Below.now ep0 (by repeat (first | exact Below.refl _ _ | refine Below.drew ?_ | refine below_drewN ?_ _ | refine Below.alloc ?_ (by simp; try omega) _)))) (by omega) (by omega) (owns_cap HOp0.out).1).mono ?_
  rintro e v2 ⟨rfl, hb⟩
  have hc : Below v1.heap.size v1 v2 := Below.now (by repeat (first | exact Below.refl _ _ | refine Below.drew ?_ | refine below_drewN ?_ _ | refine Below.alloc ?_ (by simp; try omega) _)) hb
  have hsz := hc.size
  replace d1 := Below.now d1 hc
  replace ep0 := Below.now ep0 hc
  clear HOp0 lop0 ep0
  clear hb hc hsz
  have sz3 : Hid (u0.heap.size ≤ v2.heap.size) := d1.size
  have d3 := Below.refl v2.heap.size v2
  go_wp2_with fail
  refine (toStringS_any l0 a0 c0 _ (HL0.out.later (Below.now d1 (by repeat (first | exact Below.refl _ _ | refine Below.drew ?_ | refine below_drewN ?_ _ | refine Below.alloc ?_ (by simp; try omega) _)))) (by omega)).mono ?_
  rintro e v3 ⟨ax0, cx0, rfl, ho, hb⟩
  have hc : Below v2.heap.size v2 v3 := Below.now (by repeat (first | exact Below.refl _ _ | refine Below.drew ?_ | refine below_drewN ?_ _ | refine Below.alloc ?_ (by simp; try omega) _)) hb
  have hsz := hc.size
  replace d1 := Below.now d1 hc
  replace d3 := Below.now d3 hc
  have HOx0 : Hid (v3.ownsRow v2.heap.size 9 1 (.slice ax0 l0.length cx0) l0.length (strVals l0)) := owns_mono ho (by simp; try omega)
  have lox0 : Hid (v2.heap.size ≤ v3.heap.size) := hc.size
  clear ho hb hc hsz
  have ex0 := Below.refl v3.heap.size v3
  go_wp2_with fail
  refine (implCodeLine_any l0 ax0 cx0 _ ((owns_strs (l := l0) HOx0.out).later (Below.now ex0 (by repeat (first | exact Below.refl _ _ | refine Below.drew ?_ | refine below_drewN ?_ _ | refine Below.alloc ?_ (by simp; try omega) _)))) (by omega) (by omega) (owns_cap HOx0.out).1).mono ?_
  rintro e v4 ⟨rfl, hb⟩
  have hc : Below v3.heap.size v3 v4 := Below.now (by repeat (first | exact Below.refl _ _ | refine Below.drew ?_ | refine below_drewN ?_ _ | refine Below.alloc ?_ (by simp; try omega) _)) hb
  have hsz := hc.size
  replace d1 := Below.now d1 hc
  replace d3 := Below.now d3 hc
  replace ex0 := Below.now ex0 hc
  clear hb hc hsz
  have d7 := Below.refl v4.heap.size v4
  go_wp2_with fail
  refine (toStringS_any l0 a0 c0 _ (HL0.out.later (Below.now d1 (by repeat (first | exact Below.refl _ _ | refine Below.drew ?_ | refine below_drewN ?_ _ | refine Below.alloc ?_ (by simp; try omega) _)))) (by omega)).mono ?_
  rintro e v5 ⟨at0, ct0, rfl, ho, hb⟩
  have hc : Below v4.heap.size v4 v5 := Below.now (by repeat (first | exact Below.refl _ _ | refine Below.drew ?_ | refine below_drewN ?_ _ | refine Below.alloc ?_ (by simp; try omega) _)) hb
  have hsz := hc.size
  replace d1 := Below.now d1 hc
  replace d3 := Below.now d3 hc
  replace ex0 := Below.now ex0 hc
  replace d7 := Below.now d7 hc
  have HOt0 : Hid (v5.ownsRow v4.heap.size 9 1 (.slice at0 l0.length ct0) l0.length (strVals l0)) := owns_mono ho (by simp; try omega)
  have lot0 : Hid (v4.heap.size ≤ v5.heap.size) := hc.size
  clear ho hb hc hsz
  go_wp2_with fail
  refine (eqStringS_same l0 ax0 at0 _ _ _ ((owns_strs (l := l0) HOx0.out).later (Below.now ex0 (by repeat (first | exact Below.refl _ _ | refine Below.drew ?_ | refine below_drewN ?_ _ | refine Below.alloc ?_ (by simp; try omega) _)))) ((owns_strs (l := l0) HOt0.out).later (by repeat (first | exact Below.refl _ _ | refine Below.drew ?_ | refine below_drewN ?_ _ | refine Below.alloc ?_ (by simp; try omega) _))) (by omega)).mono ?_
  rintro e v6 ⟨rfl, hb⟩
  have hc : Below v5.heap.size v5 v6 := Below.now (by repeat (first | exact Below.refl _ _ | refine Below.drew ?_ | refine below_drewN ?_ _ | refine Below.alloc ?_ (by simp; try omega) _)) hb
  have hsz := hc.size
  replace d1 := Below.now d1 hc
  replace d3 := Below.now d3 hc
  replace ex0 := Below.now ex0 hc
  replace d7 := Below.now d7 hc
  clear hb hc hsz HOt0 lot0
  go_wp2_with fail
  go_ret
  exact ⟨rfl, Below.now hbel.out d1⟩
theorem walk (l0 : List ByteArray) (a0 : Option Addr) (c0 : Nat) (w : World) (hl0 : StrsIn w a0 l0) (hn0 : l0.length ≤ 9223372036854775807) (hm0 : ∀ j, j < l0.length → (nthS l0 j).size ≤ maxLen) :
    Calls Try.prog 3 #[.slice a0 l0.length c0] w fun e w' => e = .returned (.bool true) ∧ Below w.heap.size w w' := by
  by_cases hs0 : (1048576 : Int) < ((l0.length : Int) + (strSum l0 : Nat))
  · exact walkBig0 l0 a0 c0 w hl0 hn0 hm0  hs0
  exact walkSmall l0 a0 c0 w hl0 hn0 hm0 hs0
end Go.Proofs.Ytlldhmoiahcfpaa.fnExactCodeLine
