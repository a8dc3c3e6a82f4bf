/-
  Lists of integers as cells, and lists of the numbers with a property.
-/
import Derived.Test.YtnnboeeogbgmdaaBase
namespace Go.Proofs.Ytnnboeeogbgmdaa
open Go.RowKit
set_option linter.unusedVariables false
def intVals (l : List Int) : List Value := l.map (Value.int .i64)
/-- the numbers below j with a property -/
def listTo (f : Nat → Bool) (j : Nat) : List Int := ((List.range j).filter f).map Int.ofNat
theorem listTo_yes {f : Nat → Bool} {j : Nat} (h : f j = true) : listTo f (j + 1) = listTo f j ++ [(j : Int)] := by
  simp [listTo, List.range_succ, h]
theorem listTo_no {f : Nat → Bool} {j : Nat} (h : f j = false) : listTo f (j + 1) = listTo f j := by
  simp [listTo, List.range_succ, h]
theorem listTo_len (f : Nat → Bool) (j : Nat) : (listTo f j).length ≤ j := by
  unfold listTo
  rw [List.length_map]
  exact Nat.le_trans (List.length_filter_le _ _) (by simp)
end Go.Proofs.Ytnnboeeogbgmdaa
