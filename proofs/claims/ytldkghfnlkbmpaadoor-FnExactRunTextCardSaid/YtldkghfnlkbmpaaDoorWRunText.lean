/-
  The walk of 'FnExactRunText'.
-/
import Derived.Test.YtldkghfnlkbmpaaDoorRunHelp
import Derived.Test.YtldkghfnlkbmpaaDoorLift
namespace Go.Proofs.YtldkghfnlkbmpaaDoor.fnExactRunText
open Go.ChangeShapes Go.WideShapes Go.ChangeAt Go.RowKit Go.Joins
set_option linter.unusedVariables false
set_option maxHeartbeats 1000000 in
theorem walk (s : ByteArray) (t u : Int) (w : World) (hn : s.size ≤ maxLen) (ha : -9223372036854775808 ≤ t) (hb : t ≤ 9223372036854775807) (ht : Tab10 w) :
    Calls Tryd.prog 4 #[.agg #[.string s, .int .i64 t, .int .i64 u]] w fun e w' => e = .returned (.bool true) ∧ Below w.heap.size w w' := by
  have HT := Lib.hid ht
  have HN := Lib.hid hn
  clear ht
  by_cases hs : (1048576 : Int) < (s.size : Int)
  · have HS := fun w => szRun_any s t u 1048576 w HN.out (by omega) (by omega)
    rw [if_pos hs] at HS
    replace HS := fun w => Lib.hid (HS w)
    go_enter Tryd.func4, Tryd.ntmps4
    go_wp2_with fail
    refine (HS _).out.mono ?_
    rintro e w1 ⟨rfl, hb1⟩
    have hbel := Below.now ((Below.refl w.heap.size w).alloc (Nat.le_refl _) _) hb1
    clear hb1
    go_wp2_with fail
    go_ret
    exact ⟨rfl, hbel⟩
  · have hsz : s.size ≤ 2097152 := by omega
    have HS := fun w => szRun_any s t u 1048576 w HN.out (by omega) (by omega)
    rw [if_neg hs] at HS
    replace HS := fun w => Lib.hid (HS w)
    go_enter Tryd.func4, Tryd.ntmps4
    go_wp2_with fail
    refine (HS _).out.mono ?_
    rintro e w1 ⟨rfl, hb1⟩
    have x0 := box_later hb1 (i := 0) (v := .string s) rfl
    have x1 := box_later hb1 (i := 1) (v := .int .i64 t) rfl
    have x2 := box_later hb1 (i := 2) (v := .int .i64 u) rfl
    have HB := Lib.hid (Below.now ((Below.refl w.heap.size w).alloc (Nat.le_refl _) _) hb1)
    have d := Below.refl w1.heap.size w1
    clear hb1
    go_wp2_with fail
    refine (toRun_any s t u _).mono ?_
    rintro e w2 ⟨rfl, hb2⟩
    replace d := Below.now d hb2
    clear hb2
    go_wp2_with fail
    refine (specRunText_any s t u _ hsz ha hb).mono ?_
    rintro e w3 ⟨rfl, hb3⟩
    replace d := Below.now d hb3
    clear hb3
    go_wp2_with fail
    refine (toRun_any s t u _).mono ?_
    rintro e w4 ⟨rfl, hb4⟩
    replace d := Below.now d hb4
    clear hb4
    go_wp2_with fail
    refine (implRunText_any s t u _ hsz ha hb (HT.out.later (Below.now HB.out d))).mono ?_
    rintro e w5 ⟨rfl, hb5⟩
    replace d := Below.now d hb5
    clear hb5
    go_wp2_with fail
    go_ret
    exact ⟨rfl, Below.now HB.out d⟩
end Go.Proofs.YtldkghfnlkbmpaaDoor.fnExactRunText
