/-
  Places of a part in a word; the variables of a pattern.
-/
import Derived.Test.YtnnboeeogbgmdaaPat
import Derived.Test.YtnnboeeogbgmdaaBuild
import Derived.Test.YtnnboeeogbgmdaaLists
import Derived.Test.YtnnboeeogbgmdaaShelf
namespace Go.Proofs.Ytnnboeeogbgmdaa
open Go.RowKit
set_option linter.unusedVariables false
theorem toList_ne {p : ByteArray} (h : 0 < p.size) : p.toList.isEmpty = false := by
  rw [ByteArray.toList_eq]
  have : p.data.toList.length = p.size := by simp
  cases hl : p.data.toList with
  | nil => rw [hl] at this; simp at this; omega
  | cons a b => rfl
/-- the part stands at a place -/
def plB (s p : ByteArray) (i : Nat) : Bool := (s.extract i (i + p.size)).toList == p.toList
/-- the places of a part -/
def placesL (s p : ByteArray) : List Int := listTo (plB s p) (s.size + 1 - p.size)
theorem one_eq (s : ByteArray) (j : Nat) (h : j < s.size) : s.extract j (j + 1) = ⟨#[s[j]]⟩ := by
  have := one_list s j h
  ext1
  apply Array.toList_inj.1
  rw [this]
/-- a variable that is met -/
def addVar (out : ByteArray) (c : UInt8) : ByteArray := if isVarB c && !decide (0 ≤ Lib.indexByte out.data.toList c) then out ++ ⟨#[c]⟩ else out
/-- the variables of the first j bytes -/
def varsTo (s : ByteArray) : Nat → ByteArray
  | 0 => ByteArray.empty
  | j + 1 => addVar (varsTo s j) (s.data.toList.getD j 0)
/-- the variables of a pattern -/
def varsOf (s : ByteArray) : ByteArray := varsTo s s.size
theorem byte_getD {s : ByteArray} {j : Nat} (h : j < s.size) : s.data.toList.getD j 0 = s[j] := by
  rw [List.getD_eq_getElem?_getD, List.getElem?_eq_getElem (by simpa using h)]
  simp [ByteArray.getElem_eq_getElem_data]
theorem varsTo_no1 {s : ByteArray} {j : Nat} (h : j < s.size) (h1 : isVarB s[j] = false) : varsTo s (j + 1) = varsTo s j := by
  simp only [varsTo, byte_getD h, addVar, h1]; rfl
theorem varsTo_no2 {s : ByteArray} {j : Nat} (h : j < s.size) (h1 : decide (0 ≤ Lib.indexByte (varsTo s j).data.toList s[j]) = true) : varsTo s (j + 1) = varsTo s j := by
  simp only [varsTo, byte_getD h, addVar, h1]; simp
theorem varsTo_yes {s : ByteArray} {j : Nat} (h : j < s.size) (h0 : isVarB s[j] = true) (h1 : decide (0 ≤ Lib.indexByte (varsTo s j).data.toList s[j]) = false) : varsTo s (j + 1) = varsTo s j ++ ⟨#[s[j]]⟩ := by
  simp only [varsTo, byte_getD h, addVar, h0, h1]; rfl
theorem varsTo_size (s : ByteArray) : ∀ j, (varsTo s j).size ≤ j
  | 0 => by simp [varsTo]
  | j + 1 => by
    have := varsTo_size s j
    simp only [varsTo, addVar]
    split
    · simp only [ByteArray.size_append]
      have : (ByteArray.mk #[s.data.toList.getD j 0]).size = 1 := rfl
      omega
    · omega
theorem ret_str {a b : ByteArray} (h : a = b) : Ending.returned (.string a) = .returned (.string b) := by rw [h]
set_option maxHeartbeats 400000 in
theorem variables_any (s : ByteArray) (w : World) (hs : s.size ≤ 2097152) :
    Calls Try.prog 34 #[.string s] w fun e w' => e = .returned (.string (varsOf s)) ∧ w = w' := by
  go_enter Try.func34, Try.ntmps34
  go_wp2_with fail
  go_loopw [3, 7] (fun v i wr => ∃ j : Nat, j ≤ s.size ∧ i = .int .i64 j ∧ v = .string (varsTo s j) ∧ wr = w) (fun _ i _ => s.size - (intOf i).toNat)
  case atStart => exact ⟨0, Nat.zero_le _, rfl, rfl, rfl⟩
  case round =>
    obtain ⟨j, hj, rfl, rfl, rfl⟩ := hrel
    have hvs := varsTo_size s j
    by_cases hlt : j < s.size
    · have hb := byte_lt s[j]
      have ho := one_eq s j hlt
      have HV := Lib.hid (varsTo_no1 (s := s) (j := j) hlt)
      have HV2 := Lib.hid (varsTo_no2 (s := s) (j := j) hlt)
      have HV3 := Lib.hid (varsTo_yes (s := s) (j := j) hlt)
      generalize varsTo s j = out at *
      cases h1 : isVarB s[j]
      · have F := Lib.hid (HV.out h1)
        clear HV HV2 HV3
        go_wp2_with (go_at_call 44; refine (isVariable_any _ _).mono ?_; rintro e w' ⟨rfl, rfl⟩)
        go_roundw
        case rel => exact ⟨j + 1, by omega, by go_num, by rw [F.out], trivial⟩
        case measure => simp [intOf]; omega
      · cases h2 : decide (0 ≤ Lib.indexByte out.data.toList s[j])
        · have F := Lib.hid (HV3.out h1 h2)
          have HC := fun w => Lib.hid (Try.strings_Contains_one out s[j] w)
          rw [h2] at HC
          clear HV HV2 HV3 h2
          go_wp2_with (first | (go_at_call 44; refine (isVariable_any _ _).mono ?_; rintro e w' ⟨rfl, rfl⟩) | (go_at_call 64; refine (HC _).out.mono ?_; rintro e w' ⟨rfl, rfl⟩))
          go_roundw
          case rel => exact ⟨j + 1, by omega, by go_num, by rw [F.out], trivial⟩
          case measure => simp [intOf]; omega
        · have F := Lib.hid (HV2.out h2)
          have HC := fun w => Lib.hid (Try.strings_Contains_one out s[j] w)
          rw [h2] at HC
          clear HV HV2 HV3 h2
          go_wp2_with (first | (go_at_call 44; refine (isVariable_any _ _).mono ?_; rintro e w' ⟨rfl, rfl⟩) | (go_at_call 64; refine (HC _).out.mono ?_; rintro e w' ⟨rfl, rfl⟩))
          go_roundw
          case rel => exact ⟨j + 1, by omega, by go_num, by rw [F.out], trivial⟩
          case measure => simp [intOf]; omega
    · obtain rfl : j = s.size := by omega
      have F := Lib.hid (show varsOf s = varsTo s s.size from rfl)
      go_wp2_with fail
      go_ret
      exact ⟨ret_str F.out.symm, rfl⟩
theorem indexByte_mem (l : List UInt8) (c : UInt8) : decide (0 ≤ Lib.indexByte l c) = l.contains c := by
  induction l with
  | nil => rfl
  | cons b l ih =>
    have hg := Lib.indexByte_ge l c
    rw [List.contains_cons, ← ih]
    rw [show Lib.indexByte (b :: l) c = if b == c then 0 else if Lib.indexByte l c == -1 then -1 else Lib.indexByte l c + 1 from rfl]
    by_cases h : b = c
    · subst h; simp
    · have h1 : (b == c) = false := by simpa using h
      have h2 : (c == b) = false := by simp; exact fun e => h e.symm
      rw [if_neg (by simp [h]), h2]
      by_cases h3 : Lib.indexByte l c = -1
      · rw [h3]; rfl
      · rw [if_neg (by simpa using h3)]; simp; constructor <;> intro <;> omega
theorem plB_one {s : ByteArray} {c : UInt8} {i : Nat} (h : i < s.size) : plB s ⟨#[c]⟩ i = (s.data.toList.getD i 0 == c) := by
  unfold plB
  rw [show (ByteArray.mk #[c]).size = 1 from rfl, one_eq s i h, byte_getD h]
  simp [ByteArray.toList_eq]
/-- one byte's places -/
theorem places_one (s : ByteArray) (c : UInt8) : ((((placesL s ⟨#[c]⟩).length : Nat) : Int) == 0) = !decide (0 ≤ Lib.indexByte s.data.toList c) := by
  rw [indexByte_mem]
  unfold placesL listTo
  rw [show s.size + 1 - (ByteArray.mk #[c]).size = s.size from by show s.size + 1 - 1 = _; omega, List.length_map]
  cases h : s.data.toList.contains c
  · have : (List.range s.size).filter (plB s ⟨#[c]⟩) = [] := by
      rw [List.filter_eq_nil_iff]
      intro i hi
      have hi := List.mem_range.1 hi
      rw [plB_one hi, byte_getD hi]
      intro e
      have e := eq_of_beq e
      have hm : s[i] ∈ s.data.toList := by
        have := List.getElem_mem (l := s.data.toList) (n := i) (by simpa using hi)
        rwa [Array.getElem_toList] at this
      rw [e] at hm
      rw [List.contains_iff_mem.2 hm] at h
      cases h
    rw [this]; rfl
  · have hm := List.contains_iff_mem.1 h
    obtain ⟨i, hi, e⟩ := List.getElem_of_mem hm
    have hi' : i < s.size := by simpa using hi
    have : i ∈ (List.range s.size).filter (plB s ⟨#[c]⟩) := by
      rw [List.mem_filter]
      refine ⟨List.mem_range.2 hi', ?_⟩
      rw [plB_one hi', List.getD_eq_getElem?_getD, List.getElem?_eq_getElem hi, Option.getD_some, e]
      simp
    have hpos := List.length_pos_of_mem this
    rw [Bool.not_true, beq_eq_false_iff_ne]
    omega
end Go.Proofs.Ytnnboeeogbgmdaa
