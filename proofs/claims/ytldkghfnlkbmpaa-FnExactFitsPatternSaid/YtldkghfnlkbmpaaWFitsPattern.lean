/-
  The walk of 'FnExactFitsPattern': FitsPattern of the program and of the reference.
-/
import Derived.Test.YtldkghfnlkbmpaaFitsSp
import Derived.Test.YtldkghfnlkbmpaaLift
namespace Go.Proofs.Ytldkghfnlkbmpaa.fnExactFitsPattern
open Go.ChangeShapes Go.WideShapes Go.ChangeAt Go.RowKit Go.Joins
set_option linter.unusedVariables false
theorem fpV_len (p s : ByteArray) : (fpV p s).length ≤ 8 := by
  unfold fpV
  cases h : fpOk p s
  · simp
  · simp only [if_true]
    simp only [fpOk, Bool.and_eq_true, decide_eq_true_eq] at h
    obtain ⟨_, _, hp8, hs16⟩ := fitOk_out h.1
    exact (fitL_vals hp8 hs16 h.2).2
set_option maxHeartbeats 1000000 in
theorem walkBig0 (s0 s1 : ByteArray) (w : World) (hn0 : s0.size ≤ maxLen) (hn1 : s1.size ≤ maxLen) (hs0 : (1048576 : Int) < (s0.size : Int)) :
    Calls Try.prog 10 #[.string s0, .string s1] w fun e w' => e = .returned (.bool true) ∧ Below w.heap.size w w' := by
  unfold maxLen at hn0 hn1
  go_enter Try.func10, Try.ntmps10
  go_wp2_with fail
  go_ret
  exact ⟨rfl, Below.refl _ _⟩
set_option maxHeartbeats 1000000 in
theorem walkBig1 (s0 s1 : ByteArray) (w : World) (hn0 : s0.size ≤ maxLen) (hn1 : s1.size ≤ maxLen) (hs0 : ¬ (1048576 : Int) < (s0.size : Int)) (hs1 : (1048576 : Int) < (s1.size : Int)) :
    Calls Try.prog 10 #[.string s0, .string s1] w fun e w' => e = .returned (.bool true) ∧ Below w.heap.size w w' := by
  unfold maxLen at hn0 hn1
  go_enter Try.func10, Try.ntmps10
  go_wp2_with fail
  go_ret
  exact ⟨rfl, Below.refl _ _⟩
set_option maxRecDepth 100000 in
set_option maxHeartbeats 2000000 in
theorem walkSmall (s0 s1 : ByteArray) (w : World) (hn0 : s0.size ≤ maxLen) (hn1 : s1.size ≤ maxLen) (hs0 : ¬ (1048576 : Int) < (s0.size : Int)) (hs1 : ¬ (1048576 : Int) < (s1.size : Int)) :
    Calls Try.prog 10 #[.string s0, .string s1] w fun e w' => e = .returned (.bool true) ∧ Below w.heap.size w w' := by
  have HSP := Lib.hid (fun W => specFitsPattern_any s0 s1 W hn0 hn1)
  have HIM := Lib.hid (fun W => implFitsPattern_any s0 s1 W hn0 hn1)
  have hlen := fpV_len s0 s1
  unfold RetFP at HSP HIM
  generalize fpV s0 s1 = V at *
  generalize fpOk s0 s1 = ok at *
  unfold maxLen at hn0 hn1
  go_enter Try.func10, Try.ntmps10
  go_wp2_with fail
  refine (HSP.out _).mono ?_
  rintro e w1 ⟨aw, cw, rfl, hoW, hb1⟩
  have HW := Lib.hid (owns_strsIn hoW)
  have B1 := Lib.hid hb1
  clear hoW hb1
  go_wp2_with fail
  refine (HIM.out _).mono ?_
  rintro e w2 ⟨ag, cg, rfl, hoG, hb2⟩
  have HG := Lib.hid hoG
  have B2 := Lib.hid hb2
  clear hoG hb2
  have EQ1 := Lib.hid (eqStringS_same V ag aw cg cw w2 (owns_strsIn HG.out) (HW.out.later B2.out) (by omega))
  go_wp2_with fail
  refine EQ1.out.mono ?_
  rintro e w3 ⟨rfl, hb3⟩
  have B3 := Lib.hid hb3
  clear hb3 EQ1
  have MK := Lib.hid (markStringS_any 1 V.length cg w1.heap.size ag (strVals V) w3 (owns_later HG.out B3.out) (by omega) (by omega))
  cases ok
  all_goals
    go_wp2_with fail
    refine MK.out.mono ?_
    rintro e w4 ⟨rfl, hom, hor⟩
    have B4 : Hid (Below w1.heap.size w1 w4) := Lib.hid (Below.grown (Below.now B2.out B3.out) hor (Below.now B2.out B3.out).size (fun k hk => by
      have := HG.out.lt k (by rw [← hk]; cases ag <;> rfl); omega))
    have HM := Lib.hid hom
    clear hom hor
    have HE1 := Lib.hid (heldStringS_any 1 V.length cg ag w4 (owns_strsIn (l := markStrs 1 V.length) HM.out) (by omega) (by omega))
    go_wp2_with fail
    refine HE1.out.mono ?_
    rintro e w5 ⟨rfl, hb5⟩
    have B5 := Lib.hid hb5
    clear hb5 HE1
    go_wp2_with fail
    refine (HIM.out _).mono ?_
    rintro e w6 ⟨ah, ch, rfl, hoH, hb6⟩
    have HH := Lib.hid (owns_strsIn hoH)
    have B6 := Lib.hid hb6
    clear hoH hb6
    have EQ2 := Lib.hid (eqStringS_same V ah aw ch cw w6 HH.out (HW.out.later (Below.now B4.out (Below.now B5.out B6.out))) (by omega))
    go_wp2_with fail
    refine EQ2.out.mono ?_
    rintro e w7 ⟨rfl, hb7⟩
    have B7 := Lib.hid hb7
    clear hb7 EQ2
    have HE2 := Lib.hid (heldStringS_any 1 V.length cg ag w7 (StrsIn.later (owns_strsIn (l := markStrs 1 V.length) HM.out) (Below.now B5.out (Below.now B6.out B7.out))) (by omega) (by omega))
    go_wp2_with fail
    refine HE2.out.mono ?_
    rintro e w8 ⟨rfl, hb8⟩
    have B8 : Hid (Below w.heap.size w w8) := Lib.hid (Below.now B1.out (Below.now B4.out (Below.now B5.out (Below.now B6.out (Below.now B7.out hb8)))))
    clear hb8 HE2
    go_wp2_with fail
    go_ret
    exact ⟨rfl, B8.out⟩
theorem walk (s0 s1 : ByteArray) (w : World) (hn0 : s0.size ≤ maxLen) (hn1 : s1.size ≤ maxLen) :
    Calls Try.prog 10 #[.string s0, .string s1] w fun e w' => e = .returned (.bool true) ∧ Below w.heap.size w w' := by
  by_cases hs0 : (1048576 : Int) < (s0.size : Int)
  · exact walkBig0 s0 s1 w hn0 hn1 hs0
  by_cases hs1 : (1048576 : Int) < (s1.size : Int)
  · exact walkBig1 s0 s1 w hn0 hn1 hs0 hs1
  exact walkSmall s0 s1 w hn0 hn1 hs0 hs1
end Go.Proofs.Ytldkghfnlkbmpaa.fnExactFitsPattern
