/-
  FirstFit, AvoidsPattern.
-/
import Derived.Test.YtnnboeeogbgmdaaFirst
namespace Go.Proofs.Ytnnboeeogbgmdaa
open Go.RowKit
set_option linter.unusedVariables false
/-- FirstFit and AvoidsPattern as functions of plain data -/
def firstV (p s : ByteArray) : Option (Nat × Nat) := if fitOkB p s = true then outF p s else none
theorem firstV_not {p s : ByteArray} (h : fitOkB p s = false) : firstV p s = none := by simp [firstV, h]
theorem firstV_yes {p s : ByteArray} (h : fitOkB p s = true) : firstV p s = outF p s := by simp [firstV, h]
def ffI (p s : ByteArray) : Int := fstI (firstV p s)
def ffN (p s : ByteArray) : Int := fstN (firstV p s)
def avoidB (p s : ByteArray) : Bool := fitOkB p s && !(outF p s).isSome
theorem avoidB_not {p s : ByteArray} (h : fitOkB p s = false) : avoidB p s = false := by simp [avoidB, h]
theorem avoidB_yes {p s : ByteArray} (h : fitOkB p s = true) : avoidB p s = !(outF p s).isSome := by simp [avoidB, h]
theorem ret_ii' {a b c d : Int} (h : a = b) (h2 : c = d) : Ending.returned (.tuple #[.int .i64 a, .int .i64 c]) = .returned (.tuple #[.int .i64 b, .int .i64 d]) := by rw [h, h2]
set_option maxHeartbeats 1000000 in
theorem implFirstFit_any (p s : ByteArray) (w : World) (hp : p.size ≤ maxLen) (hs : s.size ≤ maxLen) :
    Calls Try.prog 19 #[.string p, .string s] w fun e w' => e = .returned (.tuple #[.int .i64 (ffI p s), .int .i64 (ffN p s)]) ∧ Below w.heap.size w w' := by
  cases h1 : patternOkB p
  · skip
    have F := Lib.hid (firstV_not (fitOk_not1 (s := s) h1))
    go_enter Try.func19, Try.ntmps19
    go_wp2_with (go_at_call 15; refine (implPatternOk_any _ _ hp).mono ?_; rintro e w' ⟨h9, rfl⟩; rw [h1] at h9; subst h9)
    go_ret2
    exact ⟨ret_ii' (by unfold ffI; rw [F.out]; rfl) (by unfold ffN; rw [F.out]; rfl), Below.refl _ _⟩
  · cases h2 : wordOkB 4 s
    · skip
      have F := Lib.hid (firstV_not (fitOk_not2 (p := p) h2))
      go_enter Try.func19, Try.ntmps19
      go_wp2_with (first
        | (go_at_call 15; refine (implPatternOk_any _ _ hp).mono ?_; rintro e w' ⟨h9, rfl⟩; rw [h1] at h9; subst h9)
        | (go_at_call 38; refine (implWordOk_any _ _ _ hs).mono ?_; rintro e w' ⟨h9, rfl⟩; rw [h2] at h9; subst h9))
      go_ret2
      exact ⟨ret_ii' (by unfold ffI; rw [F.out]; rfl) (by unfold ffN; rw [F.out]; rfl), Below.refl _ _⟩
    · have hok := fitOk_yes h1 h2
      obtain ⟨_, _, hp8, hs16⟩ := fitOk_out hok
      have F := Lib.hid (firstV_yes hok)
      clear hok
      go_enter Try.func19, Try.ntmps19
      go_wp2_with (first
        | (go_at_call 15; refine (implPatternOk_any _ _ hp).mono ?_; rintro e w' ⟨h9, rfl⟩; rw [h1] at h9; subst h9)
        | (go_at_call 38; refine (implWordOk_any _ _ _ hs).mono ?_; rintro e w' ⟨h9, rfl⟩; rw [h2] at h9; subst h9))
      refine (firstFit_any p s _ hp8 hs16).mono ?_
      rintro e w2 ⟨rfl, hb2⟩
      have F1 : Hid (ffI p s = fstI (outF p s)) := Lib.hid (by unfold ffI; rw [F.out])
      have F2 : Hid (ffN p s = fstN (outF p s)) := Lib.hid (by unfold ffN; rw [F.out])
      generalize outF p s = r at *
      go_wp2_with fail
      go_ret2
      exact ⟨ret_ii' F1.out.symm F2.out.symm, hb2⟩
set_option maxHeartbeats 1000000 in
theorem implAvoidsPattern_any (p s : ByteArray) (w : World) (hp : p.size ≤ maxLen) (hs : s.size ≤ maxLen) :
    Calls Try.prog 18 #[.string p, .string s] w fun e w' => e = .returned (.bool (avoidB p s)) ∧ Below w.heap.size w w' := by
  cases h1 : patternOkB p
  · skip
    have F := Lib.hid (avoidB_not (fitOk_not1 (s := s) h1))
    go_enter Try.func18, Try.ntmps18
    go_wp2_with (go_at_call 15; refine (implPatternOk_any _ _ hp).mono ?_; rintro e w' ⟨h9, rfl⟩; rw [h1] at h9; subst h9)
    go_ret
    exact ⟨ret_bool F.out.symm, Below.refl _ _⟩
  · cases h2 : wordOkB 4 s
    · skip
      have F := Lib.hid (avoidB_not (fitOk_not2 (p := p) h2))
      go_enter Try.func18, Try.ntmps18
      go_wp2_with (first
        | (go_at_call 15; refine (implPatternOk_any _ _ hp).mono ?_; rintro e w' ⟨h9, rfl⟩; rw [h1] at h9; subst h9)
        | (go_at_call 38; refine (implWordOk_any _ _ _ hs).mono ?_; rintro e w' ⟨h9, rfl⟩; rw [h2] at h9; subst h9))
      go_ret
      exact ⟨ret_bool F.out.symm, Below.refl _ _⟩
    · have hok := fitOk_yes h1 h2
      obtain ⟨_, _, hp8, hs16⟩ := fitOk_out hok
      have F := Lib.hid (avoidB_yes hok)
      clear hok
      go_enter Try.func18, Try.ntmps18
      go_wp2_with (first
        | (go_at_call 15; refine (implPatternOk_any _ _ hp).mono ?_; rintro e w' ⟨h9, rfl⟩; rw [h1] at h9; subst h9)
        | (go_at_call 38; refine (implWordOk_any _ _ _ hs).mono ?_; rintro e w' ⟨h9, rfl⟩; rw [h2] at h9; subst h9))
      refine (firstFit_any p s _ hp8 hs16).mono ?_
      rintro e w2 ⟨rfl, hb2⟩
      generalize (outF p s).isSome = r at *
      cases r
      all_goals
        go_wp2_with fail
        go_ret
        exact ⟨ret_bool F.out.symm, hb2⟩
end Go.Proofs.Ytnnboeeogbgmdaa
