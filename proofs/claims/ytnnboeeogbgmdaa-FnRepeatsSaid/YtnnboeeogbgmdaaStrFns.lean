/-
  Marks of slices of strings.
-/
import Derived.Test.YtnnboeeogbgmdaaStrHelp
import Derived.Test.YtnnboeeogbgmdaaLetters
import Derived.Test.YtnnboeeogbgmdaaLawHelp
namespace Go.Proofs.Ytnnboeeogbgmdaa
open Go.RowKit
set_option linter.unusedVariables false
/-- the decimal digits of a number ahead of a text, by at most f steps -/
def digs : Nat → Nat → ByteArray → ByteArray
  | 0, _, s => s
  | f + 1, x, s => if x = 0 then s else digs f (x / 10) (oneC (48 + (x : Int) % 10) ++ s)
theorem digs_zero : ∀ (f : Nat) (s : ByteArray), digs f 0 s = s
  | 0, _ => rfl
  | f + 1, s => by simp [digs]
theorem digs_step {f x : Nat} {s : ByteArray} (h : 0 < x) : digs (f + 1) x s = digs f (x / 10) (oneC (48 + (x : Int) % 10) ++ s) := by simp only [digs, if_neg (show ¬ x = 0 by omega)]
/-- the mark of a number -/
def markS (K : Nat) : ByteArray := ⟨#[109]⟩ ++ digs 20 K ⟨#[]⟩
theorem oneC_len (x : Int) : (oneC x).size = 1 := rfl
/-- the marks from k on -/
def markStrs (k n : Nat) : List ByteArray := (List.range n).map fun i => markS (k + i)
theorem markStrs_len (k n : Nat) : (markStrs k n).length = n := by simp [markStrs]
theorem markStrs_nth {k n j : Nat} (h : j < n) : nthS (markStrs k n) j = markS (k + j) := by rw [nthS_lt (by simpa [markStrs] using h)]; simp [markStrs]
theorem markStrs_at {k n j : Nat} (h : j < n) : (strVals (markStrs k n))[j]? = some (.string (markS (k + j))) := by simp [strVals, markStrs, h]
/-- a row that is being filled with what tgt says -/
def MarkT (T : TypeId) (w wr : World) (base : Nat) (a : Option Addr) (n cap : Nat) (tgt : List Value) (j : Nat) : Prop :=
  ∃ xs, wr.ownsRow base T 1 (.slice a n cap) n xs ∧ xs.take j = tgt.take j ∧ OnlyRow w a wr ∧ tgt.length = n
/-- what a function leaves that marks a slice -/
def MarkedT (T : TypeId) (w : World) (base : Nat) (a : Option Addr) (n cap k : Nat) (tgt : List Value) (e : Ending) (w' : World) : Prop :=
  e = .returned (.int .i64 ((k + n : Nat) : Int)) ∧ w'.ownsRow base T 1 (.slice a n cap) n tgt ∧ OnlyRow w a w'
theorem MarkT.start {T : TypeId} {w : World} {base : Nat} {a : Option Addr} {n cap : Nat} {xs tgt : List Value} (h : w.ownsRow base T 1 (.slice a n cap) n xs) (ht : tgt.length = n) : MarkT T w w base a n cap tgt 0 :=
  ⟨xs, h, by simp, ⟨rfl, rfl, rfl, Nat.le_refl _, fun _ _ _ => rfl⟩, ht⟩
theorem MarkT.addr {T : TypeId} {w wr : World} {base : Nat} {a : Option Addr} {n cap j : Nat} {tgt : List Value} (h : MarkT T w wr base a n cap tgt j) (hj : j < n) : ∃ g, a = some ⟨g, 0, none⟩ := by
  obtain ⟨xs, ho, _⟩ := h
  rcases ho.2 with ⟨hv, h0⟩ | ⟨g, cap', cur, hv, _⟩
  · omega
  · simp only [Value.slice.injEq] at hv
    exact ⟨g, hv.1⟩
theorem MarkT.cell {T : TypeId} {w wr : World} {base g n cap j : Nat} {tgt : List Value} (h : MarkT T w wr base (some ⟨g, 0, none⟩) n cap tgt j) (hj : j < n) : ∃ v, wr.cell? ⟨g, j, none⟩ = some v := by
  obtain ⟨xs, ho, _⟩ := h
  have h1 := ho.1
  exact ⟨xs[j]'(by omega), by rw [ho.cellAt j (by omega), List.getElem?_eq_getElem]⟩
theorem MarkT.frozen {T : TypeId} {w wr : World} {base g n cap j : Nat} {tgt : List Value} (h : MarkT T w wr base (some ⟨g, 0, none⟩) n cap tgt j) (i : Nat) : wr.frozen? ⟨g, i, none⟩ = false := by
  obtain ⟨xs, ho, _⟩ := h
  exact ho.frozenAt i
theorem MarkT.later {T : TypeId} {w wr wr' : World} {base n cap j : Nat} {a : Option Addr} {tgt : List Value} (h : MarkT T w wr base a n cap tgt j) (hb : Below wr.heap.size wr wr') : MarkT T w wr' base a n cap tgt j := by
  obtain ⟨xs, ho, ht, hr, hl⟩ := h
  exact ⟨xs, owns_later ho hb, ht, only_trans hr ⟨hb.os, hb.tape, hb.output, hb.size, fun k hk _ => hb.block k hk⟩, hl⟩
theorem MarkT.store {T : TypeId} {w wr : World} {base g n cap j : Nat} {tgt : List Value} {u : Value} (h : MarkT T w wr base (some ⟨g, 0, none⟩) n cap tgt j) (hj : j < n) (hu : tgt[j]? = some u) :
    MarkT T w (wr.setCell ⟨g, j, none⟩ u) base (some ⟨g, 0, none⟩) n cap tgt (j + 1) := by
  obtain ⟨xs, ho, ht, hr, hl⟩ := h
  have h1 := ho.1
  have hs := ho.stored j u
  obtain ⟨hu1, hu2⟩ := List.getElem?_eq_some_iff.1 hu
  refine ⟨_, hs.1, ?_, only_trans hr hs.2, hl⟩
  rw [← hu2]
  exact fill_step (by omega) ht hu1
theorem MarkT.done {T : TypeId} {w wr : World} {base : Nat} {a : Option Addr} {n cap j : Nat} {tgt : List Value} (k : Nat) (h : MarkT T w wr base a n cap tgt j) (hj : ¬ j < n) : MarkedT T w base a n cap k tgt (.returned (.int .i64 ((k + n : Nat) : Int))) wr := by
  obtain ⟨xs, ho, ht, hr, hl⟩ := h
  have h1 := ho.1
  have : xs = tgt := fill_done (by omega) ht (by omega)
  subst this
  exact ⟨rfl, ho, hr⟩
end Go.Proofs.Ytnnboeeogbgmdaa
