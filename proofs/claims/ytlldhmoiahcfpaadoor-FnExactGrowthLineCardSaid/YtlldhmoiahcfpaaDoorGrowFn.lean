/-
  GrowthLine's answer as a function.
-/
import Derived.Test.YtlldhmoiahcfpaaDoorGrowLn
namespace Go.Proofs.YtlldhmoiahcfpaaDoor
open Go.RowKit
set_option linter.unusedVariables false
open Classical in
/-- what GrowthLine answers -/
noncomputable def lineG (k : Int) (R : List RulD) (n : Int) : ByteArray := if growP k R n then fmtNums (growO k R n) else ⟨#[110, 111, 110, 101]⟩
theorem RetLine.fn {k : Int} {R : List RulD} {n : Int} {w w' : World} {e : Ending} (h : RetLine k R n w e w') : e = .returned (.string (lineG k R n)) ∧ Below w.heap.size w w' := by
  rcases h with ⟨h1, h2, h3⟩ | ⟨h1, h2, h3⟩
  · exact ⟨by rw [h2, lineG, if_neg h1], h3⟩
  · exact ⟨by rw [h2, lineG, if_pos h1], h3⟩
theorem specGrowthLine_fn (k : Int) (R : List RulD) (a : Option Addr) (cap : Nat) (n : Int) (w : World) (hl : RulesIn w a R) (hlen : R.length ≤ 2 ^ 40) (hz : SzR R) :
    Calls Tryd.prog 6 #[.agg #[.int .i64 k, .slice a R.length cap], .int .i64 n] w fun e w' => e = .returned (.string (lineG k R n)) ∧ Below w.heap.size w w' :=
  (specGrowthLine_any k R n a cap w hl hlen hz).mono fun _ _ h => h.fn
theorem implGrowthLine_fn (k : Int) (R : List RulD) (a : Option Addr) (cap : Nat) (n : Int) (w : World) (hl : RulesIn w a R) (hlen : R.length ≤ 2 ^ 40) (hz : SzR R) (ht : Tab10 w) :
    Calls Tryd.prog 8 #[.agg #[.int .i64 k, .slice a R.length cap], .int .i64 n] w fun e w' => e = .returned (.string (lineG k R n)) ∧ Below w.heap.size w w' :=
  (implGrowthLine_any k R n a cap w hl hlen hz ht).mono fun _ _ h => h.fn
end Go.Proofs.YtlldhmoiahcfpaaDoor
