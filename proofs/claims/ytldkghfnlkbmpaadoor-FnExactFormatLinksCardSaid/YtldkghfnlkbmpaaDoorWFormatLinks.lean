/-
  The walk of 'FnExactFormatLinks': FormatLinks of the program and of the reference, called on copies of the arguments.
-/
import Derived.Test.YtldkghfnlkbmpaaDoorLinkHelp
import Derived.Test.YtldkghfnlkbmpaaDoorOpenLinks
import Derived.Test.YtldkghfnlkbmpaaDoorTabHelp
import Derived.Test.YtldkghfnlkbmpaaDoorLift
import Derived.Deep.RegionHeld3
namespace Go.Proofs.YtldkghfnlkbmpaaDoor.fnExactFormatLinks
open Go.ChangeShapes Go.WideShapes Go.ChangeAt Go.RowKit Go.Joins
open Go.ChangeMaps (open_string shut_string)
set_option linter.unusedVariables false
set_option maxHeartbeats 1000000 in
theorem walkBig0 (l0 : List (Int × Int × Bool)) (a0 : Option Addr) (c0 : Nat) (w : World) (hl0 : LinksIn w a0 l0) (hn0 : l0.length ≤ 9223372036854775807) (hr0 : RngK l0) (ht : Tab10 w) (hs0 : (1048576 : Int) < (l0.length : Int)) :
    Calls Tryd.prog 6 #[.slice a0 l0.length c0] w fun e w' => e = .returned (.bool true) ∧ Below w.heap.size w w' := by
  have HS0 := fun w => szLinkS_any l0.length c0 a0 1048576 w (by omega) (by omega) (by omega)
  rw [if_pos hs0] at HS0
  have HT0 := fun w (_ : True) => Lib.hid (HS0 w)
  clear HS0
  clear hl0
  clear ht
  go_enter Tryd.func6, Tryd.ntmps6
  go_wp2_with fail
  refine (HT0 _ trivial).out.mono ?_
  rintro e w' ⟨rfl, rfl⟩
  go_wp2_with fail
  go_ret
  exact ⟨rfl, (by repeat (first | exact Below.refl _ _ | refine Below.drew ?_ | refine below_drewN ?_ _ | refine Below.alloc ?_ (by simp; try omega) _))⟩
set_option maxRecDepth 100000 in
set_option maxHeartbeats 2000000 in
theorem walkSmall (l0 : List (Int × Int × Bool)) (a0 : Option Addr) (c0 : Nat) (w : World) (hl0 : LinksIn w a0 l0) (hn0 : l0.length ≤ 9223372036854775807) (hr0 : RngK l0) (ht : Tab10 w) (hs0 : ¬ (1048576 : Int) < (l0.length : Int)) :
    Calls Tryd.prog 6 #[.slice a0 l0.length c0] w fun e w' => e = .returned (.bool true) ∧ Below w.heap.size w w' := by
  have HS0 := fun w => szLinkS_any l0.length c0 a0 1048576 w (by omega) (by omega) (by omega)
  rw [if_neg hs0] at HS0
  have HT0 := fun w (_ : True) => Lib.hid (HS0 w)
  clear HS0
  have hz0 : l0.length ≤ 1048576 := by omega
  have HL0 := Lib.hid hl0
  have HT10 := Lib.hid ht
  clear ht
  clear hl0
  clear hs0
  go_enter Tryd.func6, Tryd.ntmps6
  go_wp2_with fail
  refine (HT0 _ trivial).out.mono ?_
  rintro e u0 ⟨rfl, hb0⟩
  have hk0 : Below w.heap.size w u0 := by rw [← hb0]; exact (by repeat (first | exact Below.refl _ _ | refine Below.drew ?_ | refine below_drewN ?_ _ | refine Below.alloc ?_ (by simp; try omega) _))
  clear hb0
  have hbel := Lib.hid hk0
  clear hk0
  replace HL0 := Lib.hid (HL0.out.later hbel.out)
  have d1 := Below.refl u0.heap.size u0
  go_wp2_with fail
  refine (toLinkS_any l0 a0 c0 _ (HL0.out.later (Below.now d1 (by repeat (first | exact Below.refl _ _ | refine Below.drew ?_ | refine below_drewN ?_ _ | refine Below.alloc ?_ (by simp; try omega) _)))) (by omega)).mono ?_
  rintro e v1 ⟨ap0, cp0, rfl, ho, hb⟩
  have hc : Below u0.heap.size u0 v1 := Below.now (by repeat (first | exact Below.refl _ _ | refine Below.drew ?_ | refine below_drewN ?_ _ | refine Below.alloc ?_ (by simp; try omega) _)) hb
  have hsz := hc.size
  replace d1 := Below.now d1 hc
  have HOp0 : Hid (v1.ownsRow u0.heap.size 61 3 (.slice ap0 l0.length cp0) l0.length (linkCells l0)) := owns_mono ho (by simp; try omega)
  have lop0 : Hid (u0.heap.size ≤ v1.heap.size) := hc.size
  clear ho hb hc hsz
  have ep0 := Below.refl v1.heap.size v1
  go_wp2_with fail
  refine (specFormatLinks_any l0 ap0 cp0 _ ((owns_links (l := l0) HOp0.out).later (Below.now ep0 (by repeat (first | exact Below.refl _ _ | refine Below.drew ?_ | refine below_drewN ?_ _ | refine Below.alloc ?_ (by simp; try omega) _)))) (by omega) hr0).mono ?_
  rintro e v2 ⟨rfl, hb⟩
  have hc : Below v1.heap.size v1 v2 := Below.now (by repeat (first | exact Below.refl _ _ | refine Below.drew ?_ | refine below_drewN ?_ _ | refine Below.alloc ?_ (by simp; try omega) _)) hb
  have hsz := hc.size
  replace d1 := Below.now d1 hc
  replace ep0 := Below.now ep0 hc
  clear HOp0 lop0 ep0
  clear hb hc hsz
  have sz3 : Hid (u0.heap.size ≤ v2.heap.size) := d1.size
  have d3 := Below.refl v2.heap.size v2
  go_wp2_with fail
  refine (toLinkS_any l0 a0 c0 _ (HL0.out.later (Below.now d1 (by repeat (first | exact Below.refl _ _ | refine Below.drew ?_ | refine below_drewN ?_ _ | refine Below.alloc ?_ (by simp; try omega) _)))) (by omega)).mono ?_
  rintro e v3 ⟨ax0, cx0, rfl, ho, hb⟩
  have hc : Below v2.heap.size v2 v3 := Below.now (by repeat (first | exact Below.refl _ _ | refine Below.drew ?_ | refine below_drewN ?_ _ | refine Below.alloc ?_ (by simp; try omega) _)) hb
  have hsz := hc.size
  replace d1 := Below.now d1 hc
  replace d3 := Below.now d3 hc
  have HOx0 : Hid (v3.ownsRow v2.heap.size 61 3 (.slice ax0 l0.length cx0) l0.length (linkCells l0)) := owns_mono ho (by simp; try omega)
  have lox0 : Hid (v2.heap.size ≤ v3.heap.size) := hc.size
  clear ho hb hc hsz
  have ex0 := Below.refl v3.heap.size v3
  go_wp2_with fail
  refine (implFormatLinks_any l0 ax0 cx0 _ ((owns_links (l := l0) HOx0.out).later (Below.now ex0 (by repeat (first | exact Below.refl _ _ | refine Below.drew ?_ | refine below_drewN ?_ _ | refine Below.alloc ?_ (by simp; try omega) _)))) (by omega) hr0 (HT10.out.later (Below.now hbel.out (Below.now d1 (by repeat (first | exact Below.refl _ _ | refine Below.drew ?_ | refine below_drewN ?_ _ | refine Below.alloc ?_ (by simp; try omega) _)))))).mono ?_
  rintro e v4 ⟨rfl, hb⟩
  have hc : Below v3.heap.size v3 v4 := Below.now (by repeat (first | exact Below.refl _ _ | refine Below.drew ?_ | refine below_drewN ?_ _ | refine Below.alloc ?_ (by simp; try omega) _)) hb
  have hsz := hc.size
  replace d1 := Below.now d1 hc
  replace d3 := Below.now d3 hc
  replace ex0 := Below.now ex0 hc
  clear hb hc hsz
  have d7 := Below.refl v4.heap.size v4
  go_wp2_with fail
  refine (toLinkS_any l0 a0 c0 _ (HL0.out.later (Below.now d1 (by repeat (first | exact Below.refl _ _ | refine Below.drew ?_ | refine below_drewN ?_ _ | refine Below.alloc ?_ (by simp; try omega) _)))) (by omega)).mono ?_
  rintro e v5 ⟨at0, ct0, rfl, ho, hb⟩
  have hc : Below v4.heap.size v4 v5 := Below.now (by repeat (first | exact Below.refl _ _ | refine Below.drew ?_ | refine below_drewN ?_ _ | refine Below.alloc ?_ (by simp; try omega) _)) hb
  have hsz := hc.size
  replace d1 := Below.now d1 hc
  replace d3 := Below.now d3 hc
  replace ex0 := Below.now ex0 hc
  replace d7 := Below.now d7 hc
  have HOt0 : Hid (v5.ownsRow v4.heap.size 61 3 (.slice at0 l0.length ct0) l0.length (linkCells l0)) := owns_mono ho (by simp; try omega)
  have lot0 : Hid (v4.heap.size ≤ v5.heap.size) := hc.size
  clear ho hb hc hsz
  go_wp2_with fail
  refine (eqLinkS_same l0 ax0 at0 _ _ _ ((owns_links (l := l0) HOx0.out).later (Below.now ex0 (by repeat (first | exact Below.refl _ _ | refine Below.drew ?_ | refine below_drewN ?_ _ | refine Below.alloc ?_ (by simp; try omega) _)))) ((owns_links (l := l0) HOt0.out).later (by repeat (first | exact Below.refl _ _ | refine Below.drew ?_ | refine below_drewN ?_ _ | refine Below.alloc ?_ (by simp; try omega) _))) (by omega)).mono ?_
  rintro e v6 ⟨rfl, hb⟩
  have hc : Below v5.heap.size v5 v6 := Below.now (by repeat (first | exact Below.refl _ _ | refine Below.drew ?_ | refine below_drewN ?_ _ | refine Below.alloc ?_ (by simp; try omega) _)) hb
  have hsz := hc.size
  replace d1 := Below.now d1 hc
  replace d3 := Below.now d3 hc
  replace ex0 := Below.now ex0 hc
  replace d7 := Below.now d7 hc
  clear hb hc hsz HOt0 lot0
  go_wp2_with fail
  go_ret
  exact ⟨rfl, Below.now hbel.out d1⟩
theorem walk (l0 : List (Int × Int × Bool)) (a0 : Option Addr) (c0 : Nat) (w : World) (hl0 : LinksIn w a0 l0) (hn0 : l0.length ≤ 9223372036854775807) (hr0 : RngK l0) (ht : Tab10 w) :
    Calls Tryd.prog 6 #[.slice a0 l0.length c0] w fun e w' => e = .returned (.bool true) ∧ Below w.heap.size w w' := by
  by_cases hs0 : (1048576 : Int) < (l0.length : Int)
  · exact walkBig0 l0 a0 c0 w hl0 hn0 hr0 ht  hs0
  exact walkSmall l0 a0 c0 w hl0 hn0 hr0 ht hs0
end Go.Proofs.YtldkghfnlkbmpaaDoor.fnExactFormatLinks
