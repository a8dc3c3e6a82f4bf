/-
  Borders: plain data.
-/
import Derived.Test.YtldkghfnlkbmpaaDoorPer
namespace Go.Proofs.YtldkghfnlkbmpaaDoor
open Go.RowKit
set_option linter.unusedVariables false
/-- the first k letters of p end l at i -/
def mat (p l : List UInt8) (i k : Nat) : Prop := k ≤ i ∧ k ≤ p.length ∧ ∀ j, j < k → gb p j = gb l (i - k + j)
/-- k letters are a border of the first i -/
def isB (l : List UInt8) (i k : Nat) : Prop := k < i ∧ ∀ j, j < k → gb l j = gb l (i - k + j)
theorem isB_zero {l : List UInt8} {i : Nat} (h : 0 < i) : isB l i 0 := ⟨h, fun j hj => absurd hj (Nat.not_lt_zero _)⟩
/-- the longest border -/
def isLb (l : List UInt8) (i k : Nat) : Prop := isB l i k ∧ ∀ k', isB l i k' → k' ≤ k
theorem mat_zero (p l : List UInt8) (i : Nat) : mat p l i 0 := ⟨Nat.zero_le _, Nat.zero_le _, fun j hj => absurd hj (Nat.not_lt_zero _)⟩
theorem mat_step {p l : List UInt8} {i k : Nat} (h : mat p l i k) (hk : k < p.length) (he : gb p k = gb l i) : mat p l (i + 1) (k + 1) := by
  obtain ⟨a, b, c⟩ := h
  refine ⟨by omega, by omega, fun j hj => ?_⟩
  by_cases e : j = k
  · rw [e, he, show i + 1 - (k + 1) + k = i by omega]
  · rw [c j (by omega), show i + 1 - (k + 1) + j = i - k + j by omega]
theorem mat_back {p l : List UInt8} {i k : Nat} (h : mat p l (i + 1) (k + 1)) : mat p l i k ∧ gb p k = gb l i := by
  obtain ⟨a, b, c⟩ := h
  refine ⟨⟨by omega, by omega, fun j hj => ?_⟩, ?_⟩
  · rw [c j (by omega), show i + 1 - (k + 1) + j = i - k + j by omega]
  · rw [c k (by omega), show i + 1 - (k + 1) + k = i by omega]
/-- a shorter match is a border of a longer one -/
theorem mat_border {p l : List UInt8} {i k k' : Nat} (h : mat p l i k) (h' : mat p l i k') (hlt : k' < k) : isB p k k' := by
  obtain ⟨a, b, c⟩ := h
  obtain ⟨a', b', c'⟩ := h'
  refine ⟨hlt, fun j hj => ?_⟩
  rw [c' j hj, c (k - k' + j) (by omega), show i - k + (k - k' + j) = i - k' + j by omega]
theorem border_mat {p l : List UInt8} {i k k' : Nat} (h : mat p l i k) (hb : isB p k k') : mat p l i k' := by
  obtain ⟨a, b, c⟩ := h
  obtain ⟨hlt, d⟩ := hb
  refine ⟨by omega, by omega, fun j hj => ?_⟩
  rw [d j hj, c (k - k' + j) (by omega), show i - k + (k - k' + j) = i - k' + j by omega]
theorem isB_mat {l : List UInt8} {i k : Nat} (h : i ≤ l.length) : isB l i k ↔ k < i ∧ mat l l i k := by
  constructor
  · rintro ⟨a, b⟩; exact ⟨a, by omega, by omega, b⟩
  · rintro ⟨a, b⟩; exact ⟨a, b.2.2⟩
theorem isB_border {l : List UInt8} {i k k' : Nat} (hi : i ≤ l.length) (h : isB l i k) (h' : isB l i k') (hlt : k' < k) : isB l k k' :=
  mat_border ((isB_mat hi).1 h).2 ((isB_mat hi).1 h').2 hlt
theorem border_isB {l : List UInt8} {i k k' : Nat} (hi : i ≤ l.length) (h : isB l i k) (hb : isB l k k') : isB l i k' :=
  (isB_mat hi).2 ⟨by have := h.1; have := hb.1; omega, border_mat ((isB_mat hi).1 h).2 hb⟩
theorem isB_step {l : List UInt8} {i k : Nat} (h : isB l i k) (he : gb l k = gb l i) : isB l (i + 1) (k + 1) := by
  obtain ⟨a, c⟩ := h
  refine ⟨by omega, fun j hj => ?_⟩
  by_cases e : j = k
  · rw [e, he, show i + 1 - (k + 1) + k = i by omega]
  · rw [c j (by omega), show i + 1 - (k + 1) + j = i - k + j by omega]
theorem isB_back {l : List UInt8} {i k : Nat} (h : isB l (i + 1) (k + 1)) : isB l i k ∧ gb l k = gb l i := by
  obtain ⟨a, c⟩ := h
  refine ⟨⟨by omega, fun j hj => ?_⟩, ?_⟩
  · rw [c j (by omega), show i + 1 - (k + 1) + j = i - k + j by omega]
  · rw [c k (by omega), show i + 1 - (k + 1) + k = i by omega]
/-- the table of the longest borders, as far as it is made: entry j is that of the first j + 1 letters -/
def tabOk (l : List UInt8) (T : List Nat) : Prop := ∀ j, j < T.length → isLb l (j + 1) (T.getD j 0)
theorem tabOk_nil (l : List UInt8) : tabOk l [] := fun j h => absurd h (Nat.not_lt_zero _)
theorem tabOk_snoc {l : List UInt8} {T : List Nat} {k : Nat} (h : tabOk l T) (hk : isLb l (T.length + 1) k) : tabOk l (T ++ [k]) := by
  intro j hj
  rw [List.length_append, List.length_singleton] at hj
  by_cases e : j = T.length
  · rw [e, List.getD_eq_getElem?_getD, List.getElem?_append_right (Nat.le_refl _)]
    simpa using hk
  · rw [List.getD_eq_getElem?_getD, List.getElem?_append_left (by omega), ← List.getD_eq_getElem?_getD]
    exact h j (by omega)
theorem lb_first (l : List UInt8) : isLb l 1 0 := ⟨isB_zero (by omega), fun k' h => by have := h.1; omega⟩
/-- where the search for the next border stands: k is a border of the first i, and no longer one can be made longer -/
def seekB (l : List UInt8) (i k : Nat) : Prop := isB l i k ∧ ∀ k', isB l i k' → k < k' → gb l k' ≠ gb l i
theorem seekB_start {l : List UInt8} {i k : Nat} (h : isLb l i k) : seekB l i k := ⟨h.1, fun k' h' hlt => by have := h.2 k' h'; omega⟩
theorem seekB_next {l : List UInt8} {i k m : Nat} (hi : i ≤ l.length) (h : seekB l i k) (hne : gb l k ≠ gb l i) (hm : isLb l k m) : seekB l i m := by
  refine ⟨border_isB hi h.1 hm.1, fun k' h' hlt => ?_⟩
  rcases Nat.lt_trichotomy k' k with hh | hh | hh
  · exact absurd (hm.2 k' (isB_border hi h.1 h' hh)) (by omega)
  · rw [hh]; exact hne
  · exact h.2 k' h' hh
theorem seekB_yes {l : List UInt8} {i k : Nat} (h : seekB l i k) (he : gb l k = gb l i) : isLb l (i + 1) (k + 1) := by
  refine ⟨isB_step h.1 he, fun k' h' => ?_⟩
  cases k' with
  | zero => omega
  | succ k' =>
    obtain ⟨a, b⟩ := isB_back h'
    rcases Nat.lt_or_ge k k' with hh | hh
    · exact absurd b (h.2 k' a hh)
    · omega
theorem seekB_no {l : List UInt8} {i : Nat} (h : seekB l i 0) (he : gb l 0 ≠ gb l i) : isLb l (i + 1) 0 := by
  refine ⟨isB_zero (by omega), fun k' h' => ?_⟩
  cases k' with
  | zero => omega
  | succ k' =>
    obtain ⟨a, b⟩ := isB_back h'
    rcases Nat.eq_zero_or_pos k' with hh | hh
    · subst hh; exact absurd b he
    · exact absurd b (h.2 k' a hh)
theorem lb_uniq {l : List UInt8} {i k k' : Nat} (h : isLb l i k) (h' : isLb l i k') : k = k' := Nat.le_antisymm (h'.2 k h.1) (h.2 k' h'.1)
/-- where a search for p in l stands behind the first i letters: the longest match that ends there -/
def isM (p l : List UInt8) (i k : Nat) : Prop := mat p l i k ∧ ∀ k', mat p l i k' → k' ≤ k
theorem isM_zero (p l : List UInt8) : isM p l 0 0 := ⟨mat_zero _ _ _, fun k' h => h.1⟩
/-- while it looks for the next one -/
def seekM (p l : List UInt8) (i k : Nat) : Prop := mat p l i k ∧ ∀ k', mat p l i k' → k < k' → k' = p.length ∨ gb p k' ≠ gb l i
theorem seekM_start {p l : List UInt8} {i k : Nat} (h : isM p l i k) : seekM p l i k := ⟨h.1, fun k' h' hlt => by have := h.2 k' h'; omega⟩
theorem seekM_next {p l : List UInt8} {i k m : Nat} (h : seekM p l i k) (hne : k = p.length ∨ gb p k ≠ gb l i) (hm : isLb p k m) : seekM p l i m := by
  refine ⟨border_mat h.1 hm.1, fun k' h' hlt => ?_⟩
  rcases Nat.lt_trichotomy k' k with hh | hh | hh
  · exact absurd (hm.2 k' (mat_border h.1 h' hh)) (by omega)
  · rw [hh]; exact hne
  · exact h.2 k' h' hh
theorem seekM_yes {p l : List UInt8} {i k : Nat} (h : seekM p l i k) (hk : k < p.length) (he : gb p k = gb l i) : isM p l (i + 1) (k + 1) := by
  refine ⟨mat_step h.1 hk he, fun k' h' => ?_⟩
  cases k' with
  | zero => omega
  | succ k' =>
    obtain ⟨a, b⟩ := mat_back h'
    rcases Nat.lt_or_ge k k' with hh | hh
    · have := h'.2.1
      rcases h.2 k' a hh with c | c
      · omega
      · exact absurd b c
    · omega
theorem seekM_no {p l : List UInt8} {i : Nat} (h : seekM p l i 0) (he : gb p 0 ≠ gb l i) : isM p l (i + 1) 0 := by
  refine ⟨mat_zero _ _ _, fun k' h' => ?_⟩
  cases k' with
  | zero => omega
  | succ k' =>
    obtain ⟨a, b⟩ := mat_back h'
    have := h'.2.1
    rcases Nat.eq_zero_or_pos k' with hh | hh
    · subst hh; exact absurd b he
    · rcases h.2 k' a hh with c | c
      · omega
      · exact absurd b c
/-- p is found to end at i -/
def occ (p l : List UInt8) (i : Nat) : Prop := mat p l i p.length
theorem isM_occ {p l : List UInt8} {i k : Nat} (h : isM p l i k) : k = p.length ↔ occ p l i := by
  constructor
  · intro e; have := h.1; rw [e] at this; exact this
  · intro o; exact Nat.le_antisymm h.1.2.1 (h.2 _ o)
end Go.Proofs.YtldkghfnlkbmpaaDoor
