/-
  VariablesOf, of the program and of the reference.
-/
import Derived.Test.YtldkghfnlkbmpaaVars
namespace Go.Proofs.Ytldkghfnlkbmpaa
open Go.RowKit
set_option linter.unusedVariables false
/-- VariablesOf as a function of plain data -/
def varsF (s : ByteArray) : ByteArray := if patternOkB s = true then varsOf s else ⟨#[]⟩
theorem varsF_yes {s : ByteArray} (h : patternOkB s = true) : varsF s = varsOf s := by simp [varsF, h]
theorem varsF_not {s : ByteArray} (h : patternOkB s = false) : varsF s = ⟨#[]⟩ := by simp [varsF, h]
theorem patOk_size {s : ByteArray} (h : patternOkB s = true) : s.size ≤ 8 := by simp [patternOkB] at h; exact h.2
set_option maxHeartbeats 400000 in
theorem implVariablesOf_any (s : ByteArray) (w : World) (hs : s.size ≤ maxLen) :
    Calls Try.prog 23 #[.string s] w fun e w' => e = .returned (.string (varsF s)) ∧ Below w.heap.size w w' := by
  cases h : patternOkB s
  · have F := Lib.hid (varsF_not h)
    go_enter Try.func23, Try.ntmps23
    go_wp2_with (go_at_call 49; refine (implPatternOk_any _ _ hs).mono ?_; rintro e w' ⟨rfl, rfl⟩)
    go_ret
    exact ⟨ret_str F.out.symm, Below.refl _ _⟩
  · have F := Lib.hid (varsF_yes h)
    have h8 := patOk_size h
    go_enter Try.func23, Try.ntmps23
    go_wp2_with (first | (go_at_call 49; refine (implPatternOk_any _ _ hs).mono ?_; rintro e w' ⟨rfl, rfl⟩) | (go_at_call 50; refine (variables_any _ _ (by omega)).mono ?_; rintro e w' ⟨rfl, rfl⟩))
    go_ret
    exact ⟨ret_str F.out.symm, Below.refl _ _⟩
set_option maxHeartbeats 400000 in
theorem specVariablesOf_any (s : ByteArray) (w : World) (hs : s.size ≤ maxLen) :
    Calls Try.prog 22 #[.string s] w fun e w' => e = .returned (.string (varsF s)) ∧ Below w.heap.size w w' := by
  cases h : patternOkB s
  · have F := Lib.hid (varsF_not h)
    go_enter Try.func22, Try.ntmps22
    go_wp2_with (go_at_call 47; refine (specPatternOk_any _ _ hs).mono ?_; rintro e w' ⟨rfl, rfl⟩)
    go_ret
    exact ⟨ret_str F.out.symm, Below.refl _ _⟩
  · have F := Lib.hid (varsF_yes h)
    have h8 := patOk_size h
    go_enter Try.func22, Try.ntmps22
    go_wp2_with (go_at_call 47; refine (specPatternOk_any _ _ hs).mono ?_; rintro e w' ⟨rfl, rfl⟩)
    refine (l28Variables_any _ _ (by omega)).mono ?_
    rintro e w2 ⟨rfl, hb2⟩
    go_wp2_with fail
    go_ret
    exact ⟨ret_str F.out.symm, hb2⟩
end Go.Proofs.Ytldkghfnlkbmpaa
