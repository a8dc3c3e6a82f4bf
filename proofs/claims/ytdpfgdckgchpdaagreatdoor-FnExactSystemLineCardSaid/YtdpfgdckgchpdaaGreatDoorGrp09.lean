/-
  WordOk of the program.
-/
import Derived.Test.YtdpfgdckgchpdaaGreatDoorGrp01
namespace Go.Proofs.YtdpfgdckgchpdaaGreatDoor
open Go.RowKit
set_option linter.unusedVariables false
/-- WordOk as a function of plain data -/
def wordOkB (k : Int) (s : ByteArray) : Bool := inB k 1 4 && (decide (s.size ≤ 16) && allB (letB k) s)
theorem letB_low {k : Int} {c : UInt8} (h : (c.toNat : Int) < 97) : letB k c = false := by
  simp [letB, inB]; omega
theorem letB_high {k : Int} {c : UInt8} (h : 97 ≤ (c.toNat : Int)) (h2 : k ≤ (c.toNat : Int) - 97) : letB k c = false := by
  simp [letB, inB]; omega
theorem letB_true {k : Int} {c : UInt8} (h : letB k c = true) : 97 ≤ (c.toNat : Int) ∧ (c.toNat : Int) - 97 < k := by
  simp [letB, inB] at h; omega
theorem wordOk_notk {k : Int} {s : ByteArray} (h : inB k 1 4 = false) : wordOkB k s = false := by simp [wordOkB, h]
theorem wordOk_long {k : Int} {s : ByteArray} (h : 16 < s.size) : wordOkB k s = false := by
  simp [wordOkB, show ¬ s.size ≤ 16 by omega]
theorem wordOk_all {k : Int} {s : ByteArray} (h : inB k 1 4 = true) (h2 : s.size ≤ 16) : wordOkB k s = allB (letB k) s := by simp [wordOkB, h, h2]
set_option maxHeartbeats 400000 in
theorem specWordOk_any (k : Int) (s : ByteArray) (w : World) (hs : s.size ≤ maxLen) :
    Calls Tryz.prog 146 #[.int .i64 k, .string s] w fun e w' => e = .returned (.bool (wordOkB k s)) ∧ w = w' := by
  unfold maxLen at hs
  cases hk : inB k 1 4
  · have F := Lib.hid (wordOk_notk (s := s) hk)
    go_enter Tryz.func146, Tryz.ntmps146
    go_wp2_with (go_at_call 57; refine (l01In_any _ _ _ _).mono ?_; rintro e w' ⟨rfl, rfl⟩)
    go_ret
    exact ⟨ret_bool F.out.symm, rfl⟩
  by_cases hl : 16 < s.size
  · have F := Lib.hid (wordOk_long (k := k) hl)
    go_enter Tryz.func146, Tryz.ntmps146
    go_wp2_with (go_at_call 57; refine (l01In_any _ _ _ _).mono ?_; rintro e w' ⟨rfl, rfl⟩)
    go_ret
    exact ⟨ret_bool F.out.symm, rfl⟩
  have hl' : s.size ≤ 16 := by omega
  have G := Lib.hid (wordOk_all (s := s) hk hl')
  have ⟨hk1, hk2⟩ := inB_bounds hk
  go_enter Tryz.func146, Tryz.ntmps146
  go_wp2_with (go_at_call 57; refine (l01In_any _ _ _ _).mono ?_; rintro e w' ⟨rfl, rfl⟩)
  go_loop [5] (fun i => ∃ j : Nat, j ≤ s.size ∧ i = .int .i64 j ∧ allTo (letB k) s j = true) (fun i => s.size - (intOf i).toNat)
  case atStart => exact ⟨0, Nat.zero_le _, rfl, allTo_zero _ _⟩
  case round =>
    obtain ⟨j, hj, rfl, hall⟩ := hrel
    have H := Lib.hid hall
    clear hall
    by_cases hlt : j < s.size
    · have hb := byte_lt s[j]
      by_cases h1 : (s[j].toNat : Int) < 97
      · have F := Lib.hid (allB_at s (letB k) j hlt (letB_low h1))
        go_wp2
        go_ret
        exact ⟨ret_bool (by rw [G.out, F.out]), rfl⟩
      · by_cases h2 : k ≤ (s[j].toNat : Int) - 97
        · have F := Lib.hid (allB_at s (letB k) j hlt (letB_high (by omega) h2))
          go_wp2
          go_ret
          exact ⟨ret_bool (by rw [G.out, F.out]), rfl⟩
        · have F := Lib.hid (allTo_succ s (letB k) j hlt H.out (by simp [letB, inB]; omega))
          go_wp2
          go_round
          case rel => exact ⟨j + 1, by omega, by go_num, F.out⟩
          case measure => simp [intOf]; omega
    · have F := Lib.hid (allTo_full s (letB k) j hlt H.out)
      go_wp2
      go_ret
      exact ⟨ret_bool (by rw [G.out, F.out]), rfl⟩
/-- a byte of a pattern -/
def patB (c : UInt8) : Bool := isVarB c || letB 4 c
/-- PatternOk as a function of plain data -/
def patternOkB (s : ByteArray) : Bool := allB patB s && decide (s.size ≤ 8)
theorem one_list (s : ByteArray) (j : Nat) (h : j < s.size) : (s.extract j (j + 1)).data.toList = [s[j]] := by
  have : (s.extract j (j + 1)).data = s.data.extract j (j + 1) := by simp
  rw [this, Array.toList_extract, List.extract_eq_take_drop, show j + 1 - j = 1 by omega, List.take_one, List.head?_drop]
  rw [List.getElem?_eq_getElem (by simpa using h)]
  simp [ByteArray.getElem_eq_getElem_data]
theorem one_all (s : ByteArray) (p : UInt8 → Bool) (j : Nat) (h : j < s.size) : allB p (s.extract j (j + 1)) = p s[j] := by
  unfold allB; rw [one_list s j h]; simp
theorem one_size (s : ByteArray) (j : Nat) (h : j < s.size) : (s.extract j (j + 1)).size = 1 := by
  rw [← ByteArray.size_data, ← Array.length_toList, one_list s j h]; rfl
theorem one_wordOk (s : ByteArray) (j : Nat) (h : j < s.size) : wordOkB 4 (s.extract j (j + 1)) = letB 4 s[j] := by
  rw [wordOk_all (by decide) (by rw [one_size s j h]; omega), one_all s _ j h]
theorem patB_var {c : UInt8} (h : isVarB c = true) : patB c = true := by simp [patB, h]
theorem patB_let {c : UInt8} {b : Bool} (h : isVarB c = false) (h2 : letB 4 c = b) : patB c = b := by simp [patB, h, h2]
theorem patOk_all {s : ByteArray} (h : allB patB s = true) : decide ((s.size : Int) ≤ 8) = patternOkB s := by simp [patternOkB, h]; omega
theorem patOk_not {s : ByteArray} (h : allB patB s = false) : patternOkB s = false := by simp [patternOkB, h]
end Go.Proofs.YtdpfgdckgchpdaaGreatDoor
namespace Go.Proofs.YtdpfgdckgchpdaaGreatDoor
open Go.RowKit
set_option linter.unusedVariables false
set_option maxHeartbeats 400000 in
theorem implWordOk_any (k : Int) (s : ByteArray) (w : World) (hs : s.size ≤ maxLen) :
    Calls Tryz.prog 125 #[.int .i64 k, .string s] w fun e w' => e = .returned (.bool (wordOkB k s)) ∧ w = w' := by
  cases hk : inB k 1 4
  · have F := Lib.hid (wordOk_notk (s := s) hk)
    unfold maxLen at hs
    go_enter Tryz.func125, Tryz.ntmps125
    go_wp2_with (go_at_call 62; refine (within_any _ _ _ _).mono ?_; rintro e w' ⟨h2, rfl⟩; rw [hk] at h2; subst h2)
    go_ret
    exact ⟨ret_bool F.out.symm, rfl⟩
  have ⟨hk1, hk2⟩ := inB_bounds hk
  by_cases hl : 16 < s.size
  · have F := Lib.hid (wordOk_long (k := k) hl)
    unfold maxLen at hs
    go_enter Tryz.func125, Tryz.ntmps125
    go_wp2_with (go_at_call 62; refine (within_any _ _ _ _).mono ?_; rintro e w' ⟨h2, rfl⟩; rw [hk] at h2; subst h2)
    go_ret
    exact ⟨ret_bool F.out.symm, rfl⟩
  · have G := Lib.hid (wordOk_all (s := s) hk (by omega))
    have HS := Lib.hid hs
    unfold maxLen at hs
    go_enter Tryz.func125, Tryz.ntmps125
    go_wp2_with (first | (go_at_call 62; refine (within_any _ _ _ _).mono ?_; rintro e w' ⟨h2, rfl⟩; rw [hk] at h2; subst h2) | (go_at_call 160; refine (hasLetters_any _ _ _ HS.out (by omega) (by omega)).mono ?_; rintro e w' ⟨rfl, rfl⟩))
    go_ret
    exact ⟨ret_bool G.out.symm, rfl⟩
end Go.Proofs.YtdpfgdckgchpdaaGreatDoor
