/-
  CountFits.
-/
import Derived.Test.YtldkghfnlkbmpaaFitsOf
namespace Go.Proofs.Ytldkghfnlkbmpaa
open Go.RowKit
set_option linter.unusedVariables false
/-- a pattern and a word that may be held against each other -/
def fitOkB (p s : ByteArray) : Bool := patternOkB p && wordOkB 4 s
theorem fitOk_out {p s : ByteArray} (h : fitOkB p s = true) : patternOkB p = true ∧ wordOkB 4 s = true ∧ p.size ≤ 8 ∧ s.size ≤ 16 := by
  simp only [fitOkB, Bool.and_eq_true] at h
  have h1 := h.1
  have h2 := h.2
  simp [patternOkB] at h1
  simp [wordOkB] at h2
  exact ⟨h.1, h.2, h1.2, h2.2.1⟩
theorem fitOk_not1 {p s : ByteArray} (h : patternOkB p = false) : fitOkB p s = false := by simp [fitOkB, h]
theorem fitOk_not2 {p s : ByteArray} (h : wordOkB 4 s = false) : fitOkB p s = false := by simp [fitOkB, h]
theorem fitOk_yes {p s : ByteArray} (h1 : patternOkB p = true) (h : wordOkB 4 s = true) : fitOkB p s = true := by simp [fitOkB, h1, h]
/-- CountFits as a function of plain data -/
def cntV (p s : ByteArray) : Int := if fitOkB p s = true then ((fitN p s : Nat) : Int) else -1
theorem cntV_not {p s : ByteArray} (h : fitOkB p s = false) : cntV p s = -1 := by simp [cntV, h]
theorem cntV_yes {p s : ByteArray} (h : fitOkB p s = true) : cntV p s = ((fitN p s : Nat) : Int) := by simp [cntV, h]
theorem l28Ok_any (p s : ByteArray) (w : World) (hp : p.size ≤ maxLen) (hs : s.size ≤ maxLen) :
    Calls Try.prog 51 #[.string p, .string s] w fun e w' => e = .returned (.bool (fitOkB p s)) ∧ w = w' := by
  cases h1 : patternOkB p
  · have F := Lib.hid (fitOk_not1 (s := s) h1)
    go_enter Try.func51, Try.ntmps51
    go_wp2_with (go_at_call 47; refine (specPatternOk_any _ _ hp).mono ?_; rintro e w' ⟨h9, rfl⟩; rw [h1] at h9; subst h9)
    go_ret
    exact ⟨ret_bool F.out.symm, rfl⟩
  · cases h2 : wordOkB 4 s
    · have F := Lib.hid (fitOk_not2 (p := p) h2)
      go_enter Try.func51, Try.ntmps51
      go_wp2_with (first
        | (go_at_call 47; refine (specPatternOk_any _ _ hp).mono ?_; rintro e w' ⟨h9, rfl⟩; rw [h1] at h9; subst h9)
        | (go_at_call 57; refine (specWordOk_any _ _ _ hs).mono ?_; rintro e w' ⟨h9, rfl⟩; rw [h2] at h9; subst h9))
      go_ret
      exact ⟨ret_bool F.out.symm, rfl⟩
    · have F := Lib.hid (fitOk_yes h1 h2)
      go_enter Try.func51, Try.ntmps51
      go_wp2_with (first
        | (go_at_call 47; refine (specPatternOk_any _ _ hp).mono ?_; rintro e w' ⟨h9, rfl⟩; rw [h1] at h9; subst h9)
        | (go_at_call 57; refine (specWordOk_any _ _ _ hs).mono ?_; rintro e w' ⟨h9, rfl⟩; rw [h2] at h9; subst h9))
      go_ret
      exact ⟨ret_bool F.out.symm, rfl⟩
theorem implCountFits_any (p s : ByteArray) (w : World) (hp : p.size ≤ maxLen) (hs : s.size ≤ maxLen) :
    Calls Try.prog 25 #[.string p, .string s] w fun e w' => e = .returned (.int .i64 (cntV p s)) ∧ Below w.heap.size w w' := by
  cases h1 : patternOkB p
  · have F := Lib.hid (cntV_not (fitOk_not1 (s := s) h1))
    go_enter Try.func25, Try.ntmps25
    go_wp2_with (go_at_call 49; refine (implPatternOk_any _ _ hp).mono ?_; rintro e w' ⟨h9, rfl⟩; rw [h1] at h9; subst h9)
    go_ret
    exact ⟨ret_int F.out.symm, Below.refl _ _⟩
  · cases h2 : wordOkB 4 s
    · have F := Lib.hid (cntV_not (fitOk_not2 (p := p) h2))
      go_enter Try.func25, Try.ntmps25
      go_wp2_with (first
        | (go_at_call 49; refine (implPatternOk_any _ _ hp).mono ?_; rintro e w' ⟨h9, rfl⟩; rw [h1] at h9; subst h9)
        | (go_at_call 53; refine (implWordOk_any _ _ _ hs).mono ?_; rintro e w' ⟨h9, rfl⟩; rw [h2] at h9; subst h9))
      go_ret
      exact ⟨ret_int F.out.symm, Below.refl _ _⟩
    · have hok := fitOk_yes h1 h2
      obtain ⟨_, _, hp8, hs16⟩ := fitOk_out hok
      have F := Lib.hid (cntV_yes hok)
      clear hok
      go_enter Try.func25, Try.ntmps25
      go_wp2_with (first
        | (go_at_call 49; refine (implPatternOk_any _ _ hp).mono ?_; rintro e w' ⟨h9, rfl⟩; rw [h1] at h9; subst h9)
        | (go_at_call 53; refine (implWordOk_any _ _ _ hs).mono ?_; rintro e w' ⟨h9, rfl⟩; rw [h2] at h9; subst h9))
      refine (fitsOf_any p s _ hp8 hs16).mono ?_
      rintro e w2 ⟨a2, c2, rfl, hb2⟩
      go_wp2_with fail
      go_ret
      exact ⟨ret_int F.out.symm, hb2⟩
/-- the reference's fits of a pattern, all or one of them -/
theorem l28Fits_whole (p s : ByteArray) (one : Bool) (b off cap : Nat) (w : World) (hp8 : p.size ≤ 8) (hs16 : s.size ≤ 16) (hb : b < w.heap.size) :
    Calls Try.prog 52 #[.string p, .string s, .string (varsOf p), .slice (some ⟨b, off, none⟩) 0 cap, .bool one] w (RetN (cutF one (fits (bl (varsOf p)) (bl p) (bl s) [])).length w) := by
  have hn : (varsOf p).size ≤ 8 := by have := varsTo_size p p.size; unfold varsOf; omega
  refine (fitsS_any (varsOf p) one hn p.size p s [] b off cap w rfl hp8 hs16 (allIn_vars p) (.inl rfl) (by simp; omega) (fun j hj => absurd hj (by simp)) hb).mono ?_
  rintro e w' ⟨xs, ⟨a, c, rfl, _, hbl⟩, _⟩
  exact ⟨a, c, rfl, hbl⟩
theorem cutF_false (l : List (List ByteArray)) : cutF false l = l := rfl
theorem cutF_pos (l : List (List ByteArray)) : (cutF true l).length = min 1 l.length := by simp [cutF]
set_option maxHeartbeats 1000000 in
theorem specCountFits_any (p s : ByteArray) (w : World) (hp : p.size ≤ maxLen) (hs : s.size ≤ maxLen) :
    Calls Try.prog 24 #[.string p, .string s] w fun e w' => e = .returned (.int .i64 (cntV p s)) ∧ Below w.heap.size w w' := by
  cases hok : fitOkB p s
  · have F := Lib.hid (cntV_not hok)
    go_enter Try.func24, Try.ntmps24
    go_wp2_with (go_at_call 51; refine (l28Ok_any _ _ _ hp hs).mono ?_; rintro e w' ⟨h9, rfl⟩; rw [hok] at h9; subst h9)
    go_ret
    exact ⟨ret_int F.out.symm, Below.refl _ _⟩
  · have F := Lib.hid (cntV_yes hok)
    obtain ⟨_, _, hp8, hs16⟩ := fitOk_out hok
    have HW := Lib.hid (fun b cap W hb => l28Fits_whole p s false b 0 cap W hp8 hs16 hb)
    go_enter Try.func24, Try.ntmps24
    go_wp2_with (go_at_call 51; refine (l28Ok_any _ _ _ hp hs).mono ?_; rintro e w' ⟨h9, rfl⟩; rw [hok] at h9; subst h9)
    refine (l28Variables_any p _ (by omega)).mono ?_
    rintro e w2 ⟨rfl, hb2⟩
    go_wp2_with fail
    refine (HW.out w2.heap.size 0 _ (by simp)).mono ?_
    rintro e w3 ⟨a3, c3, rfl, hb3⟩
    have hb4 : Below w.heap.size w w3 := Below.now hb2 (Below.now ((Below.refl _ _).alloc (Nat.le_refl _) _) hb3)
    clear hb2 hb3
    go_wp2_with fail
    go_ret
    exact ⟨ret_int F.out.symm, hb4⟩
end Go.Proofs.Ytldkghfnlkbmpaa
