/-
  Sorted lists of integers, each once.
-/
import Derived.Test.YtkkffaiacipibaaLists
import Derived.Lib.SlicesCompact
namespace Go.Proofs.Ytkkffaiacipibaa
open Go.RowKit
set_option linter.unusedVariables false
theorem sorted_ext : ∀ (l l' : List Int), l.Pairwise (· < ·) → l'.Pairwise (· < ·) → (∀ x, x ∈ l ↔ x ∈ l') → l = l'
  | [], [], _, _, _ => rfl
  | [], b :: l', _, _, h => absurd ((h b).2 (by simp)) (by simp)
  | a :: l, [], _, _, h => absurd ((h a).1 (by simp)) (by simp)
  | a :: l, b :: l', h1, h2, h => by
    rw [List.pairwise_cons] at h1 h2
    have e : a = b := by
      have ha := (h a).1 (by simp)
      have hb := (h b).2 (by simp)
      rcases List.mem_cons.1 ha with e | ha
      · exact e
      · rcases List.mem_cons.1 hb with e | hb
        · exact e.symm
        · have := h1.1 b hb; have := h2.1 a ha; omega
    subst e
    congr 1
    refine sorted_ext l l' h1.2 h2.2 fun x => ⟨fun hx => ?_, fun hx => ?_⟩
    · rcases List.mem_cons.1 ((h x).1 (by simp [hx])) with e | hx'
      · have := h1.1 x hx; omega
      · exact hx'
    · rcases List.mem_cons.1 ((h x).2 (by simp [hx])) with e | hx'
      · have := h2.1 x hx; omega
      · exact hx'
theorem at_bang {zs : List Int} {j : Nat} (h : j < zs.length) : zs.toArray[j]! = zs[j] := by
  rw [getElem!_pos _ _ (by simpa using h)]; simp
theorem mono_at {zs : List Int} (h : zs.Pairwise (· ≤ ·)) {i j : Nat} (hij : i ≤ j) (hj : j < zs.length) : zs[i]'(by omega) ≤ zs[j] := by
  rcases Nat.lt_or_ge i j with hlt | hge
  · exact (List.pairwise_iff_getElem.1 h) i j (by omega) hj hlt
  · have : i = j := by omega
    subst this; exact Int.le_refl _
theorem compact_lt {zs : List Int} (h : zs.Pairwise (· ≤ ·)) : (Go.Lib.compact zs).Pairwise (· < ·) := by
  unfold Go.Lib.compact Go.Lib.compactUpTo
  rw [List.pairwise_map]
  have h0 : ((List.range zs.length).filter (Go.Lib.keeps zs.toArray)).Pairwise (· < ·) := List.Pairwise.filter _ List.pairwise_lt_range
  refine List.Pairwise.imp_of_mem (fun {i j} hi hj hij => ?_) h0
  have hi' := List.mem_filter.1 hi
  have hj' := List.mem_filter.1 hj
  have hjl := List.mem_range.1 hj'.1
  have hk : zs.toArray[j]! ≠ zs.toArray[j - 1]! := by
    have := hj'.2
    simp only [Go.Lib.keeps, decide_eq_true_eq] at this
    rcases this with e | e
    · omega
    · exact e
  rw [at_bang (by omega), at_bang (by omega)] at hk ⊢
  have h1 := mono_at h (i := i) (j := j - 1) (by omega) (by omega)
  have h2 := mono_at h (i := j - 1) (j := j) (by omega) (by omega)
  omega
theorem compact_mem (zs : List Int) (x : Int) : x ∈ Go.Lib.compact zs ↔ x ∈ zs := by
  unfold Go.Lib.compact Go.Lib.compactUpTo
  constructor
  · intro h
    obtain ⟨i, hi, rfl⟩ := List.mem_map.1 h
    have := List.mem_range.1 (List.mem_filter.1 hi).1
    rw [at_bang this]
    exact List.getElem_mem this
  · intro h
    have key : ∀ i, i < zs.length → zs.toArray[i]! ∈ List.map (zs.toArray[·]!) ((List.range zs.length).filter (Go.Lib.keeps zs.toArray)) := by
      intro i
      induction i with
      | zero => exact fun h => List.mem_map.2 ⟨0, List.mem_filter.2 ⟨List.mem_range.2 h, by simp [Go.Lib.keeps]⟩, rfl⟩
      | succ i ih =>
        intro hi
        by_cases he : zs.toArray[i + 1]! = zs.toArray[i]!
        · rw [he]; exact ih (by omega)
        · exact List.mem_map.2 ⟨i + 1, List.mem_filter.2 ⟨List.mem_range.2 hi, by simp only [Go.Lib.keeps, decide_eq_true_eq]; exact .inr he⟩, rfl⟩
    obtain ⟨i, hi, rfl⟩ := List.getElem_of_mem h
    rw [← at_bang hi]
    exact key i hi
def sortL (l : List Int) : List Int := l.mergeSort fun x y => decide (x ≤ y)
def collL (l : List Int) : List Int := Go.Lib.compact (sortL l)
theorem sortL_len (l : List Int) : (sortL l).length = l.length := by simp [sortL]
theorem sortL_le (l : List Int) : (sortL l).Pairwise (· ≤ ·) := by
  have := List.pairwise_mergeSort (le := fun x y : Int => decide (x ≤ y)) (fun a b c h1 h2 => by simp at *; omega) (fun a b => by simp; omega) l
  exact this.imp fun h => by simpa using h
theorem sortL_mem (l : List Int) (x : Int) : x ∈ sortL l ↔ x ∈ l := by unfold sortL; exact List.mem_mergeSort
theorem listTo_lt (f : Nat → Bool) (m : Nat) : (listTo f m).Pairwise (· < ·) := by
  unfold listTo
  rw [List.pairwise_map]
  exact (List.Pairwise.filter _ List.pairwise_lt_range).imp fun h => by simpa using h
theorem listTo_mem (f : Nat → Bool) (m : Nat) (x : Int) : x ∈ listTo f m ↔ ∃ j : Nat, x = j ∧ j < m ∧ f j = true := by
  unfold listTo
  simp only [List.mem_map, List.mem_filter, List.mem_range, Int.ofNat_eq_natCast]
  constructor
  · rintro ⟨j, h, rfl⟩; exact ⟨j, rfl, h⟩
  · rintro ⟨j, rfl, h⟩; exact ⟨j, h, rfl⟩
theorem collL_eq {l : List Int} {m : Nat} {f : Nat → Bool} (h : ∀ x ∈ l, ∃ j : Nat, x = j ∧ j < m) (hf : ∀ j, j < m → (f j = true ↔ (j : Int) ∈ l)) : collL l = listTo f m := by
  refine sorted_ext _ _ (compact_lt (sortL_le l)) (listTo_lt f m) fun x => ?_
  rw [collL, compact_mem, sortL_mem, listTo_mem]
  constructor
  · intro hx
    obtain ⟨j, rfl, hj⟩ := h x hx
    exact ⟨j, rfl, hj, (hf j hj).2 hx⟩
  · rintro ⟨j, rfl, hj, hx⟩
    exact (hf j hj).1 hx
theorem collL_len (l : List Int) : (collL l).length ≤ l.length := by
  unfold collL Go.Lib.compact Go.Lib.compactUpTo
  rw [List.length_map]
  exact Nat.le_trans (List.length_filter_le _ _) (by simp [sortL])
end Go.Proofs.Ytkkffaiacipibaa
