/-
  l22Begins.
-/
import Derived.Test.YtldkghfnlkbmpaaFits
namespace Go.Proofs.Ytldkghfnlkbmpaa
open Go.RowKit
set_option linter.unusedVariables false
theorem isPrefixOf_take (a b : List UInt8) : a.isPrefixOf b = (b.take a.length == a) := by
  rw [Bool.eq_iff_iff, List.isPrefixOf_iff_prefix, beq_iff_eq, List.prefix_iff_eq_take]
  exact eq_comm
theorem extract_beq {w v : ByteArray} : ((w.extract 0 v.size).toList == v.toList) = (bl v).isPrefixOf (bl w) := by
  rw [isPrefixOf_take, Bool.eq_iff_iff, beq_iff_eq, beq_iff_eq, ByteArray.toList_eq, ByteArray.toList_eq]
  have : (w.extract 0 v.size).data.toList = (bl w).take (bl v).length := by
    rw [bl_len]; simp [bl]
  rw [this]; rfl
theorem prefix_short {w v : ByteArray} (h : ¬ v.size ≤ w.size) : (bl v).isPrefixOf (bl w) = false := by
  cases hp : (bl v).isPrefixOf (bl w)
  · rfl
  · have := (List.isPrefixOf_iff_prefix.1 hp).length_le
    rw [bl_len, bl_len] at this; omega
theorem l22Begins_any (s v : ByteArray) (w : World) (hs : s.size ≤ maxLen) (hv : v.size ≤ maxLen) :
    Calls Try.prog 81 #[.string s, .string v] w fun e w' => e = .returned (.bool ((bl v).isPrefixOf (bl s))) ∧ w' = w := by
  unfold maxLen at hs hv
  by_cases h : v.size ≤ s.size
  · have E := Lib.hid (extract_beq (w := s) (v := v))
    cases hb : ((s.extract 0 v.size).toList == v.toList)
    all_goals
      go_enter Try.func81, Try.ntmps81
      go_wp2_with fail
      go_ret
      exact ⟨by rw [← E.out, hb]; rfl, rfl⟩
  · have F := Lib.hid (prefix_short h)
    go_enter Try.func81, Try.ntmps81
    go_wp2_with fail
    go_ret
    exact ⟨by rw [F.out]; rfl, rfl⟩
end Go.Proofs.Ytldkghfnlkbmpaa
