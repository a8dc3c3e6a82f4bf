/-
  CountFits.
-/
import Derived.Test.YtnnboeeogbgmdaaFitsOf
namespace Go.Proofs.Ytnnboeeogbgmdaa
open Go.RowKit
set_option linter.unusedVariables false
/-- a pattern and a word that may be held against each other -/
def fitOkB (p s : ByteArray) : Bool := patternOkB p && wordOkB 4 s
theorem fitOk_out {p s : ByteArray} (h : fitOkB p s = true) : patternOkB p = true ∧ wordOkB 4 s = true ∧ p.size ≤ 8 ∧ s.size ≤ 16 := by
  simp only [fitOkB, Bool.and_eq_true] at h
  have h1 := h.1
  have h2 := h.2
  simp [patternOkB] at h1
  simp [wordOkB] at h2
  exact ⟨h.1, h.2, h1.2, h2.2.1⟩
theorem fitOk_not1 {p s : ByteArray} (h : patternOkB p = false) : fitOkB p s = false := by simp [fitOkB, h]
theorem fitOk_not2 {p s : ByteArray} (h : wordOkB 4 s = false) : fitOkB p s = false := by simp [fitOkB, h]
theorem fitOk_yes {p s : ByteArray} (h1 : patternOkB p = true) (h : wordOkB 4 s = true) : fitOkB p s = true := by simp [fitOkB, h1, h]
/-- CountFits as a function of plain data -/
def cntV (p s : ByteArray) : Int := if fitOkB p s = true then ((fitN p s : Nat) : Int) else -1
theorem cntV_not {p s : ByteArray} (h : fitOkB p s = false) : cntV p s = -1 := by simp [cntV, h]
theorem cntV_yes {p s : ByteArray} (h : fitOkB p s = true) : cntV p s = ((fitN p s : Nat) : Int) := by simp [cntV, h]
theorem implCountFits_any (p s : ByteArray) (w : World) (hp : p.size ≤ maxLen) (hs : s.size ≤ maxLen) :
    Calls Try.prog 17 #[.string p, .string s] w fun e w' => e = .returned (.int .i64 (cntV p s)) ∧ Below w.heap.size w w' := by
  cases h1 : patternOkB p
  · have F := Lib.hid (cntV_not (fitOk_not1 (s := s) h1))
    go_enter Try.func17, Try.ntmps17
    go_wp2_with (go_at_call 15; refine (implPatternOk_any _ _ hp).mono ?_; rintro e w' ⟨h9, rfl⟩; rw [h1] at h9; subst h9)
    go_ret
    exact ⟨ret_int F.out.symm, Below.refl _ _⟩
  · cases h2 : wordOkB 4 s
    · have F := Lib.hid (cntV_not (fitOk_not2 (p := p) h2))
      go_enter Try.func17, Try.ntmps17
      go_wp2_with (first
        | (go_at_call 15; refine (implPatternOk_any _ _ hp).mono ?_; rintro e w' ⟨h9, rfl⟩; rw [h1] at h9; subst h9)
        | (go_at_call 38; refine (implWordOk_any _ _ _ hs).mono ?_; rintro e w' ⟨h9, rfl⟩; rw [h2] at h9; subst h9))
      go_ret
      exact ⟨ret_int F.out.symm, Below.refl _ _⟩
    · have hok := fitOk_yes h1 h2
      obtain ⟨_, _, hp8, hs16⟩ := fitOk_out hok
      have F := Lib.hid (cntV_yes hok)
      clear hok
      go_enter Try.func17, Try.ntmps17
      go_wp2_with (first
        | (go_at_call 15; refine (implPatternOk_any _ _ hp).mono ?_; rintro e w' ⟨h9, rfl⟩; rw [h1] at h9; subst h9)
        | (go_at_call 38; refine (implWordOk_any _ _ _ hs).mono ?_; rintro e w' ⟨h9, rfl⟩; rw [h2] at h9; subst h9))
      refine (fitsOf_any p s _ hp8 hs16).mono ?_
      rintro e w2 ⟨a2, c2, rfl, hb2⟩
      go_wp2_with fail
      go_ret
      exact ⟨ret_int F.out.symm, hb2⟩
theorem cutF_false (l : List (List ByteArray)) : cutF false l = l := rfl
theorem cutF_pos (l : List (List ByteArray)) : (cutF true l).length = min 1 l.length := by simp [cutF]
end Go.Proofs.Ytnnboeeogbgmdaa
