/-
  The walk of 'FnExactCountAvoiding': CountAvoiding of the program and of the reference, called on copies of the arguments.
-/
import Derived.Test.YtldkghfnlkbmpaaCountAS
import Derived.Test.YtldkghfnlkbmpaaTabHelp
import Derived.Test.YtldkghfnlkbmpaaLift
import Derived.Deep.RegionHeld3
namespace Go.Proofs.Ytldkghfnlkbmpaa.fnExactCountAvoiding
open Go.ChangeShapes Go.WideShapes Go.ChangeAt Go.RowKit Go.Joins
open Go.ChangeMaps (open_string shut_string)
set_option linter.unusedVariables false
set_option maxHeartbeats 1000000 in
theorem walkBig0 (s0 : ByteArray) (i1 : Int) (i2 : Int) (w : World) (hn0 : s0.size ≤ maxLen) (hs0 : (1048576 : Int) < (s0.size : Int)) :
    Calls Try.prog 11 #[.string s0, .int .i64 i1, .int .i64 i2] w fun e w' => e = .returned (.bool true) ∧ Below w.heap.size w w' := by
  unfold maxLen at hn0
  go_enter Try.func11, Try.ntmps11
  go_wp2_with fail
  go_ret
  exact ⟨rfl, (by repeat (first | exact Below.refl _ _ | refine Below.drew ?_ | refine below_drewN ?_ _ | refine Below.alloc ?_ (by simp; try omega) _))⟩
set_option maxRecDepth 100000 in
set_option maxHeartbeats 2000000 in
theorem walkSmall (s0 : ByteArray) (i1 : Int) (i2 : Int) (w : World) (hn0 : s0.size ≤ maxLen) (hs0 : ¬ (1048576 : Int) < (s0.size : Int)) :
    Calls Try.prog 11 #[.string s0, .int .i64 i1, .int .i64 i2] w fun e w' => e = .returned (.bool true) ∧ Below w.heap.size w w' := by
  have HN0 := Lib.hid hn0
  unfold maxLen at hn0
  have hz0 : s0.size ≤ 1048576 := by omega
  clear hs0
  go_enter Try.func11, Try.ntmps11
  go_wp2_with fail
  have hbel := Lib.hid (Below.refl w.heap.size w)
  have d1 := Below.refl w.heap.size w
  go_wp2_with fail
  refine (specCountAvoiding_any s0 i1 i2 _ HN0.out).mono ?_
  rintro e v1 ⟨rfl, hb⟩
  have hc : Below w.heap.size w v1 := Below.now (by repeat (first | exact Below.refl _ _ | refine Below.drew ?_ | refine below_drewN ?_ _ | refine Below.alloc ?_ (by simp; try omega) _)) hb
  have hsz := hc.size
  replace d1 := Below.now d1 hc
  clear hb hc hsz
  have sz3 : Hid (w.heap.size ≤ v1.heap.size) := d1.size
  have d3 := Below.refl v1.heap.size v1
  go_wp2_with fail
  refine (implCountAvoiding_any s0 i1 i2 _ HN0.out).mono ?_
  rintro e v2 ⟨rfl, hb⟩
  have hc : Below v1.heap.size v1 v2 := Below.now (by repeat (first | exact Below.refl _ _ | refine Below.drew ?_ | refine below_drewN ?_ _ | refine Below.alloc ?_ (by simp; try omega) _)) hb
  have hsz := hc.size
  replace d1 := Below.now d1 hc
  replace d3 := Below.now d3 hc
  clear hb hc hsz
  have d7 := Below.refl v2.heap.size v2
  go_wp2_with fail
  go_ret
  exact ⟨rfl, Below.now hbel.out d1⟩
theorem walk (s0 : ByteArray) (i1 : Int) (i2 : Int) (w : World) (hn0 : s0.size ≤ maxLen) :
    Calls Try.prog 11 #[.string s0, .int .i64 i1, .int .i64 i2] w fun e w' => e = .returned (.bool true) ∧ Below w.heap.size w w' := by
  by_cases hs0 : (1048576 : Int) < (s0.size : Int)
  · exact walkBig0 s0 i1 i2 w hn0  hs0
  exact walkSmall s0 i1 i2 w hn0 hs0
end Go.Proofs.Ytldkghfnlkbmpaa.fnExactCountAvoiding
