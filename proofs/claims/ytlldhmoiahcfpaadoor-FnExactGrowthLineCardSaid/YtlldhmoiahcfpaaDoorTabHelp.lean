/-
  The laws' own helpers over tables.
-/
import Derived.Test.YtlldhmoiahcfpaaDoorLawHelp
namespace Go.Proofs.YtlldhmoiahcfpaaDoor
open Go.RowKit
set_option linter.unusedVariables false
/-- what toTable hands back -/
def RetTab (T : TypeId) (n : Int) (l : List Int) (w : World) (e : Ending) (w' : World) : Prop :=
  ∃ a cap, e = .returned (.agg #[.int .i64 n, .slice a l.length cap]) ∧ w'.ownsRow w.heap.size T 1 (.slice a l.length cap) l.length (l.map (Value.int .i64)) ∧ Below w.heap.size w w'
theorem owns_only {w w' : World} {base : Nat} {T : TypeId} {size : Nat} {a a' : Option Addr} {n m cap : Nat} {xs : List Value} (h : w.ownsRow base T size (.slice a n cap) m xs) (hr : OnlyRow w a' w')
    (hne : ∀ x y, a = some x → a' = some y → x.block ≠ y.block) : w'.ownsRow base T size (.slice a n cap) m xs := by
  refine h.kept hr ?_
  cases a with
  | none => left; rfl
  | some x =>
    right
    cases a' with
    | none => simp [Value.ownBlock]
    | some y => simpa [Value.ownBlock] using hne x y rfl rfl
theorem below_only {B : Nat} {w w1 w' : World} {a : Option Addr} (h : Below B w w1) (hr : OnlyRow w1 a w') (hB : B ≤ w1.heap.size) (hlo : ∀ x, a = some x → B ≤ x.block) : Below B w w' :=
  h.grown hr hB (fun k hk => by
    cases a with
    | none => simp [Value.ownBlock] at hk
    | some x => simp only [Value.ownBlock, Option.some.injEq] at hk; rw [← hk]; exact hlo x rfl)
theorem owns_range {w : World} {base : Nat} {T : TypeId} {size : Nat} {a : Option Addr} {n m cap : Nat} {xs : List Value} (h : w.ownsRow base T size (.slice a n cap) m xs) : ∀ x, a = some x → base ≤ x.block ∧ x.block < w.heap.size := by
  rintro x rfl
  exact h.lt x.block rfl
end Go.Proofs.YtlldhmoiahcfpaaDoor
