/-
  VariablesOf, of the program and of the reference.
-/
import Derived.Test.YtnnboeeogbgmdaaVars
namespace Go.Proofs.Ytnnboeeogbgmdaa
open Go.RowKit
set_option linter.unusedVariables false
/-- VariablesOf as a function of plain data -/
def varsF (s : ByteArray) : ByteArray := if patternOkB s = true then varsOf s else ⟨#[]⟩
theorem varsF_yes {s : ByteArray} (h : patternOkB s = true) : varsF s = varsOf s := by simp [varsF, h]
theorem varsF_not {s : ByteArray} (h : patternOkB s = false) : varsF s = ⟨#[]⟩ := by simp [varsF, h]
theorem patOk_size {s : ByteArray} (h : patternOkB s = true) : s.size ≤ 8 := by simp [patternOkB] at h; exact h.2
set_option maxHeartbeats 400000 in
theorem implVariablesOf_any (s : ByteArray) (w : World) (hs : s.size ≤ maxLen) :
    Calls Try.prog 12 #[.string s] w fun e w' => e = .returned (.string (varsF s)) ∧ Below w.heap.size w w' := by
  cases h : patternOkB s
  · have F := Lib.hid (varsF_not h)
    go_enter Try.func12, Try.ntmps12
    go_wp2_with (go_at_call 15; refine (implPatternOk_any _ _ hs).mono ?_; rintro e w' ⟨rfl, rfl⟩)
    go_ret
    exact ⟨ret_str F.out.symm, Below.refl _ _⟩
  · have F := Lib.hid (varsF_yes h)
    have h8 := patOk_size h
    go_enter Try.func12, Try.ntmps12
    go_wp2_with (first | (go_at_call 15; refine (implPatternOk_any _ _ hs).mono ?_; rintro e w' ⟨rfl, rfl⟩) | (go_at_call 34; refine (variables_any _ _ (by omega)).mono ?_; rintro e w' ⟨rfl, rfl⟩))
    go_ret
    exact ⟨ret_str F.out.symm, Below.refl _ _⟩
end Go.Proofs.Ytnnboeeogbgmdaa
