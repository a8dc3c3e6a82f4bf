/-
  Slices of strings; strings.Join.
-/
import Derived.Test.YtlldhmoiahcfpaaMem
import Derived.Test.YtlldhmoiahcfpaaOwn
import Derived.Test.YtlldhmoiahcfpaaShelf
namespace Go.Proofs.Ytlldhmoiahcfpaa
open Go.RowKit
set_option linter.unusedVariables false
/-- a slice of strings -/
def StrsIn (w : World) (a : Option Addr) (l : List ByteArray) : Prop := CellsIn w a (l.map Value.string)
theorem StrsIn.later {w w' : World} {a : Option Addr} {l : List ByteArray} (h : StrsIn w a l) (hb : Below w.heap.size w w') : StrsIn w' a l := CellsIn.later h hb
/-- the string at a place -/
def nthS (l : List ByteArray) (i : Nat) : ByteArray := l.getD i ⟨#[]⟩
theorem nthS_lt {l : List ByteArray} {i : Nat} (h : i < l.length) : nthS l i = l[i] := by simp [nthS, List.getD_eq_getElem?_getD, h]
theorem StrsIn.cell {w : World} {a : Option Addr} {l : List ByteArray} (h : StrsIn w a l) {i : Nat} (hi : i < l.length) :
    ∃ b off, a = some ⟨b, off, none⟩ ∧ b < w.heap.size ∧ ∀ j, j < l.length → w.cell? ⟨b, off + j, none⟩ = some (.string (nthS l j)) := by
  rcases h with h | ⟨b, off, ha, hc⟩
  · simp at h; simp [h] at hi
  · have key : ∀ j, j < l.length → w.cell? ⟨b, off + j, none⟩ = some (.string (nthS l j)) := fun j hj => by
      have := hc j (by simpa using hj)
      rw [nthS_lt hj]
      simpa using this
    exact ⟨b, off, ha, World.block_lt_of_cell? w _ (key i hi), key⟩
/-- the first j strings, joined -/
def joinTo (l : List ByteArray) (sep : ByteArray) : Nat → ByteArray
  | 0 => ⟨#[]⟩
  | j + 1 => if j = 0 then nthS l 0 else joinTo l sep j ++ sep ++ nthS l j
def joinF (l : List ByteArray) (sep : ByteArray) : ByteArray := joinTo l sep l.length
theorem joinTo_one (l : List ByteArray) (sep : ByteArray) : joinTo l sep 1 = nthS l 0 := rfl
theorem joinTo_succ (l : List ByteArray) (sep : ByteArray) {j : Nat} (h : 0 < j) : joinTo l sep (j + 1) = joinTo l sep j ++ sep ++ nthS l j := by
  simp only [joinTo, if_neg (show ¬ j = 0 by omega)]
/-- the sizes of the first j -/
def sumTo (l : List ByteArray) : Nat → Nat
  | 0 => 0
  | j + 1 => sumTo l j + (nthS l j).size
theorem joinTo_size (l : List ByteArray) (sep : ByteArray) : ∀ j, (joinTo l sep (j + 1)).size = sumTo l (j + 1) + sep.size * j
  | 0 => by simp [joinTo, sumTo]
  | j + 1 => by
    rw [joinTo_succ l sep (by omega), ByteArray.size_append, ByteArray.size_append, joinTo_size l sep j, sumTo, Nat.mul_add, sumTo]
    simp only [sumTo]
    omega
theorem joinTo_mono (l : List ByteArray) (sep : ByteArray) {i j : Nat} (h : i ≤ j) : (joinTo l sep i).size ≤ (joinTo l sep j).size := by
  induction h with
  | refl => exact Nat.le_refl _
  | step h ih =>
    rename_i m
    refine Nat.le_trans ih ?_
    cases m with
    | zero => exact Nat.zero_le _
    | succ m => rw [joinTo_succ l sep (j := m + 1) (by omega), ByteArray.size_append, ByteArray.size_append]; omega
theorem sumTo_mono (l : List ByteArray) {i j : Nat} (h : i ≤ j) : sumTo l i ≤ sumTo l j := by
  induction h with
  | refl => exact Nat.le_refl _
  | step h ih => exact Nat.le_trans ih (by simp [sumTo])
theorem ret_str {a b : ByteArray} (h : a = b) : Ending.returned (.string a) = .returned (.string b) := by rw [h]
theorem cells_append (a b : ByteArray) : Lib.byteCells a.data.toList ++ Lib.strCells b = Lib.byteCells (a ++ b).data.toList := by
  rw [Lib.strCells_eq, ← Lib.byteCells_append]; simp
theorem alloc_at (w : World) (o : Obj) : (w.alloc o).heap[w.heap.size]? = some o := by unfold World.alloc; simp
end Go.Proofs.Ytlldhmoiahcfpaa
