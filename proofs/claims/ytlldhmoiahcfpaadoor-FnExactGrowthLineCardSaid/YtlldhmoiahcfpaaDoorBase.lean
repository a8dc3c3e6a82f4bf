/-
  Contracts of small functions: ranges, letters, variables.
-/
import Derived.Test.YtlldhmoiahcfpaaDoorRows
import Derived.WalkKit
import Derived.WalkSpells
import Derived.WalkLawsBesides
import Derived.BigQuiet
import Derived.Lib.Hide
namespace Go.Proofs.YtlldhmoiahcfpaaDoor
open Go.RowKit
set_option linter.unusedVariables false
/-- the number a lies in the range from b to c -/
def inB (a b c : Int) : Bool := decide (b ≤ a) && decide (a ≤ c)
theorem inB_bounds {a b c : Int} (h : inB a b c = true) : b ≤ a ∧ a ≤ c := by simpa [inB] using h
set_option maxHeartbeats 400000 in
theorem within_any (a b c : Int) (w : World) :
    Calls Tryd.prog 26 #[.int .i64 a, .int .i64 b, .int .i64 c] w fun e w' => e = .returned (.bool (inB a b c)) ∧ w = w' := by
  by_cases h : b ≤ a
  · go_enter Tryd.func26, Tryd.ntmps26
    go_wp2
    go_ret
    exact ⟨by simp [inB, h], rfl⟩
  · go_enter Tryd.func26, Tryd.ntmps26
    go_wp2
    go_ret
    exact ⟨by simp [inB]; omega, rfl⟩
set_option maxHeartbeats 400000 in
theorem l01In_any (a b c : Int) (w : World) :
    Calls Tryd.prog 23 #[.int .i64 a, .int .i64 b, .int .i64 c] w fun e w' => e = .returned (.bool (inB a b c)) ∧ w = w' := by
  by_cases h : b ≤ a
  · go_enter Tryd.func23, Tryd.ntmps23
    go_wp2
    go_ret
    exact ⟨by simp [inB, h], rfl⟩
  · go_enter Tryd.func23, Tryd.ntmps23
    go_wp2
    go_ret
    exact ⟨by simp [inB]; omega, rfl⟩
/-- the byte is a variable -/
def isVarB (c : UInt8) : Bool := decide (88 ≤ (c.toNat : Int)) && decide ((c.toNat : Int) ≤ 90)
/-- the byte is among the first k small letters -/
def letB (k : Int) (c : UInt8) : Bool := inB (c.toNat : Int) 97 (97 + k - 1)
/-- all bytes of a text have a property -/
def allB (p : UInt8 → Bool) (s : ByteArray) : Bool := s.data.toList.all p
/-- the first j bytes have it -/
def allTo (p : UInt8 → Bool) (s : ByteArray) (j : Nat) : Bool := (s.data.toList.take j).all p
theorem allTo_zero (p : UInt8 → Bool) (s : ByteArray) : allTo p s 0 = true := by simp [allTo]
theorem allTo_succ (s : ByteArray) (p : UInt8 → Bool) (j : Nat) (h : j < s.size) (ha : allTo p s j = true) (hp : p s[j] = true) : allTo p s (j + 1) = true := by
  unfold allTo at *
  rw [List.take_succ_eq_append_getElem (by simpa using h), List.all_append, ha]
  simpa [ByteArray.getElem_eq_getElem_data] using hp
theorem allTo_full (s : ByteArray) (p : UInt8 → Bool) (j : Nat) (h : ¬ j < s.size) (ha : allTo p s j = true) : allB p s = true := by
  unfold allTo at ha
  rwa [List.take_of_length_le (by simp; omega)] at ha
theorem allB_at (s : ByteArray) (p : UInt8 → Bool) (j : Nat) (h : j < s.size) (hp : p s[j] = false) : allB p s = false := by
  unfold allB
  rw [List.all_eq_false]
  exact ⟨s[j], by have := List.getElem_mem (l := s.data.toList) (n := j) (by simpa using h); rwa [Array.getElem_toList] at this, by simp [hp]⟩
theorem byte_lt (c : UInt8) : (c.toNat : Int) < 256 := by have := c.toNat_lt; omega
theorem ret_bool {a b : Bool} (h : a = b) : Ending.returned (.bool a) = .returned (.bool b) := by rw [h]
theorem ret_int {k : IntKind} {a b : Int} (h : a = b) : Ending.returned (.int k a) = .returned (.int k b) := by rw [h]
set_option maxHeartbeats 400000 in
theorem hasLetters_any (k : Int) (s : ByteArray) (w : World) (hs : s.size ≤ maxLen) (hk0 : 0 ≤ k) (hk1 : k ≤ 1000) :
    Calls Tryd.prog 83 #[.int .i64 k, .string s] w fun e w' => e = .returned (.bool (allB (letB k) s)) ∧ w = w' := by
  unfold maxLen at hs
  go_enter Tryd.func83, Tryd.ntmps83
  go_wp2
  go_loop [8] (fun i => ∃ j : Nat, j ≤ s.size ∧ i = .int .i64 j ∧ allTo (letB k) s j = true) (fun i => s.size - (intOf i).toNat)
  case atStart => exact ⟨0, Nat.zero_le _, rfl, allTo_zero _ _⟩
  case round =>
    obtain ⟨j, hj, rfl, hall⟩ := hrel
    have H := Lib.hid hall
    clear hall
    by_cases hlt : j < s.size
    · have hb := byte_lt s[j]
      cases hp : letB k s[j]
      · have F := Lib.hid (allB_at s (letB k) j hlt hp)
        unfold letB at hp
        go_wp2_with (go_at_call 26; refine (within_any _ _ _ _).mono ?_; rintro e w' ⟨rfl, rfl⟩)
        go_ret
        exact ⟨ret_bool F.out.symm, rfl⟩
      · have F := Lib.hid (allTo_succ s (letB k) j hlt H.out hp)
        unfold letB at hp
        go_wp2_with (go_at_call 26; refine (within_any _ _ _ _).mono ?_; rintro e w' ⟨rfl, rfl⟩)
        go_round
        case rel => exact ⟨j + 1, by omega, by go_num, F.out⟩
        case measure => simp [intOf]; omega
    · have F := Lib.hid (allTo_full s (letB k) j hlt H.out)
      go_wp2
      go_ret
      exact ⟨ret_bool F.out.symm, rfl⟩
end Go.Proofs.YtlldhmoiahcfpaaDoor
