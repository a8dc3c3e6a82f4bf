/-
  The walk of 'FnExactRepeatLine'.
-/
import Derived.Test.YtldkghfnlkbmpaaDoorRepLine
import Derived.Test.YtldkghfnlkbmpaaDoorLift
namespace Go.Proofs.YtldkghfnlkbmpaaDoor.fnExactRepeatLine
open Go.ChangeShapes Go.WideShapes Go.ChangeAt Go.RowKit Go.Joins
set_option linter.unusedVariables false
set_option maxHeartbeats 400000 in
theorem specNo (s : ByteArray) (w : World) (hs : s.size ≤ maxLen) (hok : longOkB 4 s = false) : Calls Tryd.prog 26 #[.string s] w fun e w' => e = .returned (.string ⟨#[110, 111, 110, 101]⟩) ∧ Below w.heap.size w w' := by
  have HL := Lib.hid (fun W => l21Ok_any s W hs)
  rw [hok] at HL
  clear hok
  go_enter Tryd.func26, Tryd.ntmps26
  go_wp2_with (go_at_call 39; refine (HL.out _).mono ?_; rintro e w' ⟨rfl, rfl⟩)
  go_ret
  exact ⟨rfl, Below.refl _ _⟩
set_option maxHeartbeats 400000 in
theorem implNo (s : ByteArray) (w : World) (hs : s.size ≤ maxLen) (hok : longOkB 4 s = false) : Calls Tryd.prog 27 #[.string s] w fun e w' => e = .returned (.string ⟨#[110, 111, 110, 101]⟩) ∧ Below w.heap.size w w' := by
  have HL := Lib.hid (fun W => implLongOk_any 4 s W hs)
  rw [hok] at HL
  clear hok
  go_enter Tryd.func27, Tryd.ntmps27
  go_wp2_with (go_at_call 43; refine (HL.out _).mono ?_; rintro e w' ⟨rfl, rfl⟩)
  go_ret
  exact ⟨rfl, Below.refl _ _⟩
set_option maxHeartbeats 1000000 in
theorem walkBig0 (s0 : ByteArray) (w : World) (hn0 : s0.size ≤ maxLen) (hs0 : (1048576 : Int) < (s0.size : Int)) :
    Calls Tryd.prog 7 #[.string s0] w fun e w' => e = .returned (.bool true) ∧ Below w.heap.size w w' := by
  unfold maxLen at hn0
  go_enter Tryd.func7, Tryd.ntmps7
  go_wp2_with fail
  go_ret
  exact ⟨rfl, Below.refl _ _⟩
set_option maxHeartbeats 1000000 in
theorem walkSmall (s0 : ByteArray) (w : World) (hn0 : s0.size ≤ maxLen) (ht : Tab10 w) (hs0 : ¬ (1048576 : Int) < (s0.size : Int)) :
    Calls Tryd.prog 7 #[.string s0] w fun e w' => e = .returned (.bool true) ∧ Below w.heap.size w w' := by
  have HT := Lib.hid ht
  clear ht
  cases hok : longOkB 4 s0
  · have HSP := Lib.hid (fun W => specNo s0 W hn0 hok)
    have HIM := Lib.hid (fun W => implNo s0 W hn0 hok)
    clear hok
    unfold maxLen at hn0
    go_enter Tryd.func7, Tryd.ntmps7
    go_wp2_with fail
    refine (HSP.out _).mono ?_
    rintro e w1 ⟨rfl, hb1⟩
    have B1 := Lib.hid hb1
    clear hb1
    go_wp2_with fail
    refine (HIM.out _).mono ?_
    rintro e w2 ⟨rfl, hb2⟩
    have B2 := Lib.hid (Below.now B1.out hb2)
    clear hb2
    go_wp2_with fail
    go_ret
    exact ⟨rfl, B2.out⟩
  · have HSP := Lib.hid (fun W => specRepeatLine_ok s0 W hok)
    have HIM := Lib.hid (fun W hW => implRepeatLine_ok s0 W hok (HT.out.later hW))
    clear hok
    unfold maxLen at hn0
    unfold RetLine at HSP HIM
    go_enter Tryd.func7, Tryd.ntmps7
    go_wp2_with fail
    refine (HSP.out _).mono ?_
    rintro e w1 ⟨g, p, ⟨hg, hp⟩, rfl, hb1⟩
    have B1 := Lib.hid hb1
    have HG := Lib.hid hg
    have HP := Lib.hid hp
    clear hb1 hg hp HSP
    generalize hLB : lineB (numB (g : Int)) (numB (p : Int)) (numB ((partsN s0 : Nat) : Int)) = LB at *
    have HLB := Lib.hid hLB
    clear hLB
    go_wp2_with fail
    refine (HIM.out _ B1.out).mono ?_
    rintro e w2 ⟨g2, p2, ⟨hg2, hp2⟩, rfl, hb2⟩
    have B2 := Lib.hid (Below.now B1.out hb2)
    have e1 := grOk_uniq hg2 HG.out
    have e2 := lpOk_uniq hp2 HP.out
    subst e1 e2
    rw [HLB.out]
    clear hb2 hg2 hp2 HIM
    go_wp2_with fail
    go_ret
    exact ⟨rfl, B2.out⟩
theorem walk (s0 : ByteArray) (w : World) (hn0 : s0.size ≤ maxLen) (ht : Tab10 w) :
    Calls Tryd.prog 7 #[.string s0] w fun e w' => e = .returned (.bool true) ∧ Below w.heap.size w w' := by
  by_cases hs0 : (1048576 : Int) < (s0.size : Int)
  · exact walkBig0 s0 w hn0 hs0
  exact walkSmall s0 w hn0 ht hs0
end Go.Proofs.YtldkghfnlkbmpaaDoor.fnExactRepeatLine
