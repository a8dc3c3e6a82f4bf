/-
  The laws' own helpers over slices of integers and tables.
-/
import Derived.Test.YtlldhmoiahcfpaaDoorIntFns
namespace Go.Proofs.YtlldhmoiahcfpaaDoor
open Go.RowKit
set_option linter.unusedVariables false
/-- marks: the numbers from k on -/
def markVals (k : Nat) (n : Nat) : List Int := (List.range n).map fun (i : Nat) => ((k + i : Nat) : Int)
theorem markVals_len (k n : Nat) : (markVals k n).length = n := by simp [markVals]
theorem markVals_at {k n j : Nat} (h : j < n) : ((markVals k n).map (Value.int .i64))[j]? = some (.int .i64 ((k + j : Nat) : Int)) := by simp [markVals, h]
theorem markVals_nth {k n j : Nat} (h : j < n) : nthZ (markVals k n) j = ((k + j : Nat) : Int) := by rw [nthZ_lt (by simpa [markVals] using h)]; simp [markVals]
/-- only the row of a slice has turned -/
def OnlyRow (w : World) (a : Option Addr) (w' : World) : Prop := w.grownBy w' (Value.slice a 0 0).ownBlock
/-- what a function leaves that marks a slice -/
def Marked (T : TypeId) (w : World) (base : Nat) (a : Option Addr) (n cap k : Nat) (e : Ending) (w' : World) : Prop :=
  e = .returned (.int .i64 ((k + n : Nat) : Int)) ∧ w'.ownsRow base T 1 (.slice a n cap) n ((markVals k n).map (Value.int .i64)) ∧ OnlyRow w a w'
/-- a row that is being marked -/
def Marking (T : TypeId) (w wr : World) (base : Nat) (a : Option Addr) (n cap k j : Nat) : Prop :=
  ∃ xs, wr.ownsRow base T 1 (.slice a n cap) n xs ∧ xs.take j = ((markVals k n).map (Value.int .i64)).take j ∧ OnlyRow w a wr
theorem Marking.start {T : TypeId} {w : World} {base : Nat} {a : Option Addr} {n cap k : Nat} {xs : List Value} (h : w.ownsRow base T 1 (.slice a n cap) n xs) : Marking T w w base a n cap k 0 :=
  ⟨xs, h, by simp, ⟨rfl, rfl, rfl, Nat.le_refl _, fun _ _ _ => rfl⟩⟩
theorem Marking.addr {T : TypeId} {w wr : World} {base : Nat} {a : Option Addr} {n cap k j : Nat} (h : Marking T w wr base a n cap k j) (hj : j < n) : ∃ g, a = some ⟨g, 0, none⟩ := by
  obtain ⟨xs, ho, _⟩ := h
  rcases ho.2 with ⟨hv, h0⟩ | ⟨g, cap', cur, hv, _⟩
  · omega
  · simp only [Value.slice.injEq] at hv
    exact ⟨g, hv.1⟩
theorem Marking.cell {T : TypeId} {w wr : World} {base g n cap k j : Nat} (h : Marking T w wr base (some ⟨g, 0, none⟩) n cap k j) (hj : j < n) : ∃ v, wr.cell? ⟨g, j, none⟩ = some v := by
  obtain ⟨xs, ho, _⟩ := h
  have h1 := ho.1
  exact ⟨xs[j]'(by omega), by rw [ho.cellAt j (by omega), List.getElem?_eq_getElem]⟩
theorem Marking.frozen {T : TypeId} {w wr : World} {base g n cap k j : Nat} (h : Marking T w wr base (some ⟨g, 0, none⟩) n cap k j) (i : Nat) : wr.frozen? ⟨g, i, none⟩ = false := by
  obtain ⟨xs, ho, _⟩ := h
  exact ho.frozenAt i
theorem only_trans {w w1 w2 : World} {a : Option Addr} (h : OnlyRow w a w1) (h' : OnlyRow w1 a w2) : OnlyRow w a w2 :=
  ⟨h'.os.trans h.os, h'.tape.trans h.tape, h'.output.trans h.output, Nat.le_trans h.size h'.size, fun k hk hne => (h'.block k (Nat.lt_of_lt_of_le hk h.size) hne).trans (h.block k hk hne)⟩
theorem Marking.store {T : TypeId} {w wr : World} {base g n cap k j : Nat} (h : Marking T w wr base (some ⟨g, 0, none⟩) n cap k j) (hj : j < n) :
    Marking T w (wr.setCell ⟨g, j, none⟩ (.int .i64 ((k + j : Nat) : Int))) base (some ⟨g, 0, none⟩) n cap k (j + 1) := by
  obtain ⟨xs, ho, ht, hr⟩ := h
  have h1 := ho.1
  have hs := ho.stored j (.int .i64 ((k + j : Nat) : Int))
  have hu := List.getElem?_eq_some_iff.1 (markVals_at (k := k) hj)
  obtain ⟨hu1, hu2⟩ := hu
  refine ⟨_, hs.1, ?_, only_trans hr hs.2⟩
  rw [← hu2]
  exact fill_step (by simp [markVals]; omega) ht hu1
theorem Marking.done {T : TypeId} {w wr : World} {base : Nat} {a : Option Addr} {n cap k j : Nat} (h : Marking T w wr base a n cap k j) (hj : ¬ j < n) : Marked T w base a n cap k (.returned (.int .i64 ((k + n : Nat) : Int))) wr := by
  obtain ⟨xs, ho, ht, hr⟩ := h
  have h1 := ho.1
  have : xs = (markVals k n).map (Value.int .i64) := fill_done (by simp [markVals]; omega) ht (by simp [markVals]; omega)
  subst this
  exact ⟨rfl, ho, hr⟩
end Go.Proofs.YtlldhmoiahcfpaaDoor
