/-
  slices.IndexFunc and slices.ContainsFunc at integers, for every function value that keeps what was there.
-/
import Derived.Test.YtnnboeeogbgmdaaTabPlain
import Derived.Shelf.Abstract
namespace Go.Proofs.Ytnnboeeogbgmdaa
open Go.RowKit
set_option linter.unusedVariables false
/-- a function value that answers p for the numbers of a list in every world that is as w below block B, and keeps what lay there -/
def PredInts (B : Nat) (g : Nat) (caps : Array Value) (p : Int → Bool) (l : List Int) (w : World) : Prop :=
  ∀ j, j < l.length → ∀ W, Below B w W → Calls Try.prog g (#[.int .i64 (nthZ l j)] ++ caps) W fun e W' => e = .returned (.bool (p (nthZ l j))) ∧ Below W.heap.size W W'
/-- the first place with a property, or -1 -/
def idxZ (p : Int → Bool) (l : List Int) : Int := match l.findIdx? p with | some i => i | none => -1
/-- none of the first j has it -/
def noneTo (p : Int → Bool) (l : List Int) (j : Nat) : Prop := ∀ i, i < j → p (nthZ l i) = false
theorem noneTo_zero (p : Int → Bool) (l : List Int) : noneTo p l 0 := fun _ h => absurd h (Nat.not_lt_zero _)
theorem noneTo_succ {p : Int → Bool} {l : List Int} {j : Nat} (h : noneTo p l j) (hj : p (nthZ l j) = false) : noneTo p l (j + 1) := fun i hi => by
  by_cases e : i = j
  · rw [e]; exact hj
  · exact h i (by omega)
theorem idxZ_at {p : Int → Bool} {l : List Int} {j : Nat} (h : noneTo p l j) (hlt : j < l.length) (hj : p (nthZ l j) = true) : idxZ p l = j := by
  have : l.findIdx? p = some j := by
    rw [List.findIdx?_eq_some_iff_getElem]
    refine ⟨hlt, by rw [← nthZ_lt hlt]; exact hj, fun i hi => ?_⟩
    have := h i hi
    rw [nthZ_lt (by omega)] at this
    simp [this]
  simp [idxZ, this]
theorem idxZ_none {p : Int → Bool} {l : List Int} {j : Nat} (h : noneTo p l j) (hlt : ¬ j < l.length) : idxZ p l = -1 := by
  have : l.findIdx? p = none := by
    rw [List.findIdx?_eq_none_iff]
    intro x hx
    obtain ⟨i, hi, rfl⟩ := List.getElem_of_mem hx
    rw [← nthZ_lt hi]
    exact h i (by omega)
  simp [idxZ, this]
theorem idxZ_nonneg (p : Int → Bool) (l : List Int) : decide (0 ≤ idxZ p l) = l.any p := by
  unfold idxZ
  cases h : l.findIdx? p
  · rw [List.findIdx?_eq_none_iff] at h
    have : l.any p = false := by rw [List.any_eq_false]; intro x hx; simp [h x hx]
    simp [this]
  · rename_i i
    rw [List.findIdx?_eq_some_iff_getElem] at h
    obtain ⟨hi, hp, _⟩ := h
    have : l.any p = true := by rw [List.any_eq_true]; exact ⟨l[i], List.getElem_mem hi, hp⟩
    simp [this]
theorem any_not_all {α : Type} (l : List α) (p : α → Bool) : (!l.any fun x => !p x) = l.all p := by simp [List.all_eq_not_any_not]
end Go.Proofs.Ytnnboeeogbgmdaa
