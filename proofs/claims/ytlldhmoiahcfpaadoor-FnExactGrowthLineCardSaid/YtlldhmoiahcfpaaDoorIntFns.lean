/-
  Functions over slices of integers: indices, and the laws' own copies and comparisons.
-/
import Derived.Test.YtlldhmoiahcfpaaDoorOwn
import Derived.Test.YtlldhmoiahcfpaaDoorTabPlain
namespace Go.Proofs.YtlldhmoiahcfpaaDoor
open Go.RowKit
set_option linter.unusedVariables false
def idxVals (m : Nat) : List Value := (List.range m).map fun (i : Nat) => Value.int .i64 (i : Nat)
theorem idxVals_at {m j : Nat} (h : j < m) : (idxVals m)[j]? = some (.int .i64 (j : Nat)) := by simp [idxVals, h]
theorem idxVals_len (m : Nat) : (idxVals m).length = m := by simp [idxVals]
end Go.Proofs.YtlldhmoiahcfpaaDoor
