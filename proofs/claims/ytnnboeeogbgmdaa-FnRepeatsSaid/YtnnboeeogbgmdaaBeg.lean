/-
  l22Begins.
-/
import Derived.Test.YtnnboeeogbgmdaaFits
namespace Go.Proofs.Ytnnboeeogbgmdaa
open Go.RowKit
set_option linter.unusedVariables false
theorem isPrefixOf_take (a b : List UInt8) : a.isPrefixOf b = (b.take a.length == a) := by
  rw [Bool.eq_iff_iff, List.isPrefixOf_iff_prefix, beq_iff_eq, List.prefix_iff_eq_take]
  exact eq_comm
theorem extract_beq {w v : ByteArray} : ((w.extract 0 v.size).toList == v.toList) = (bl v).isPrefixOf (bl w) := by
  rw [isPrefixOf_take, Bool.eq_iff_iff, beq_iff_eq, beq_iff_eq, ByteArray.toList_eq, ByteArray.toList_eq]
  have : (w.extract 0 v.size).data.toList = (bl w).take (bl v).length := by
    rw [bl_len]; simp [bl]
  rw [this]; rfl
theorem prefix_short {w v : ByteArray} (h : ¬ v.size ≤ w.size) : (bl v).isPrefixOf (bl w) = false := by
  cases hp : (bl v).isPrefixOf (bl w)
  · rfl
  · have := (List.isPrefixOf_iff_prefix.1 hp).length_le
    rw [bl_len, bl_len] at this; omega
end Go.Proofs.Ytnnboeeogbgmdaa
