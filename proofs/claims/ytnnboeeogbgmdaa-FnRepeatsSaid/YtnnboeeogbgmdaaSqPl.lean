/-
  Squares and other repetitions: plain data.
-/
import Derived.Test.YtnnboeeogbgmdaaFits
import Derived.Test.YtnnboeeogbgmdaaLetters
namespace Go.Proofs.Ytnnboeeogbgmdaa
open Go.RowKit
set_option linter.unusedVariables false
/-- the bytes from a to b -/
theorem bl_cut (s : ByteArray) (a b : Nat) : bl (s.extract a b) = ((bl s).drop a).take (b - a) := by
  simp [bl, List.extract_eq_take_drop]
/-- a square of halves of h letters ends a word -/
def sqAt (l : List UInt8) (h : Nat) : Bool := l.drop (l.length - h) == (l.drop (l.length - 2 * h)).take h
/-- none of the first j ends it -/
def freeTo (l : List UInt8) (j : Nat) : Bool := (List.range j).all fun i => !sqAt l (i + 1)
/-- no square ends a word -/
def freeEnd (l : List UInt8) : Bool := freeTo l (l.length / 2)
theorem freeTo_succ {l : List UInt8} {j : Nat} (h : freeTo l j = true) (h2 : sqAt l (j + 1) = false) : freeTo l (j + 1) = true := by
  unfold freeTo at *
  rw [List.range_succ, List.all_append, h]; simp [h2]
theorem freeEnd_no {l : List UInt8} {j : Nat} (hj : j < l.length / 2) (h2 : sqAt l (j + 1) = true) : freeEnd l = false := by
  unfold freeEnd freeTo
  rw [List.all_eq_false]
  exact ⟨j, List.mem_range.2 hj, by simp [h2]⟩
theorem sqAt_eq {s : ByteArray} {h : Nat} (hh : 2 * h ≤ s.size) : ((s.extract (s.size - h) s.size).toList == (s.extract (s.size - 2 * h) (s.size - h)).toList) = sqAt (bl s) h := by
  unfold sqAt
  rw [ByteArray.toList_eq, ByteArray.toList_eq]
  show (bl (s.extract (s.size - h) s.size) == bl (s.extract (s.size - 2 * h) (s.size - h))) = _
  rw [bl_cut, bl_cut, bl_len, show s.size - h - (s.size - 2 * h) = h by omega]
  congr 1
  rw [List.take_of_length_le]
  rw [List.length_drop, bl_len]; omega
/-- the least word without squares that continues a word by f letters -/
def leastF (k : Nat) : Nat → ByteArray → Option ByteArray
  | 0, v => some v
  | f + 1, v => (List.range k).findSome? fun x => if freeEnd (bl (v ++ letterN x)) = true then leastF k f (v ++ letterN x) else none
def tryF (k f : Nat) (v : ByteArray) (x : Nat) : Option ByteArray := if freeEnd (bl (v ++ letterN x)) = true then leastF k f (v ++ letterN x) else none
theorem findSome_none {α : Type} {f : Nat → Option α} {k : Nat} (h : ∀ x, x < k → f x = none) : (List.range k).findSome? f = none := by
  rw [List.findSome?_eq_none_iff]
  exact fun x hx => h x (List.mem_range.1 hx)
theorem findSome_some {α : Type} {f : Nat → Option α} {v : α} : ∀ {k x : Nat}, x < k → (∀ y, y < x → f y = none) → f x = some v → (List.range k).findSome? f = some v
  | 0, x, h, _, _ => by omega
  | k + 1, x, h, hn, hs => by
    rw [List.range_succ, List.findSome?_append]
    by_cases hx : x < k
    · rw [findSome_some hx hn hs]; rfl
    · obtain rfl : x = k := by omega
      rw [findSome_none hn]
      simp [hs]
theorem leastF_none {k f : Nat} {v : ByteArray} (h : ∀ x, x < k → tryF k f v x = none) : leastF k (f + 1) v = none := findSome_none h
theorem leastF_some {k f : Nat} {v u : ByteArray} {x : Nat} (hx : x < k) (hn : ∀ y, y < x → tryF k f v y = none) (h : tryF k f v x = some u) : leastF k (f + 1) v = some u := findSome_some hx hn h
theorem tryF_not {k f : Nat} {v : ByteArray} {x : Nat} (h : freeEnd (bl (v ++ letterN x)) = false) : tryF k f v x = none := by simp [tryF, h]
theorem tryF_yes {k f : Nat} {v : ByteArray} {x : Nat} (h : freeEnd (bl (v ++ letterN x)) = true) : tryF k f v x = leastF k f (v ++ letterN x) := by simp [tryF, h]
/-- the words without squares -/
def freeB (v : ByteArray) : Bool := freeEnd (bl v)
def sqf (k : Nat) : Nat → List ByteArray
  | 0 => [⟨#[]⟩]
  | j + 1 => (longer k (sqf k j)).filter freeB
theorem sqf_succ (k j : Nat) : sqf k (j + 1) = (longer k (sqf k j)).filter freeB := rfl
theorem longer_len (k : Nat) (l : List ByteArray) : (longer k l).length = l.length * k := by rw [← longTo_full, longTo_len k l _ (Nat.le_refl _)]
theorem sqf_len (k : Nat) : ∀ j, (sqf k j).length ≤ k ^ j
  | 0 => Nat.le_refl _
  | j + 1 => by
    rw [sqf_succ, Nat.pow_succ]
    refine Nat.le_trans (List.length_filter_le _ _) ?_
    rw [longer_len]
    exact Nat.mul_le_mul_right _ (sqf_len k j)
theorem sqf_size (k : Nat) : ∀ j, ∀ v ∈ sqf k j, v.size = j
  | 0, v, hv => by rw [List.mem_singleton.1 hv]; rfl
  | j + 1, v, hv => by
    rw [sqf_succ] at hv
    obtain ⟨u, hu, hv⟩ := List.mem_flatMap.1 (List.mem_filter.1 hv).1
    obtain ⟨x, _, rfl⟩ := List.mem_map.1 hv
    rw [ByteArray.size_append, sqf_size k j u hu]; rfl
/-- a part that ends at e, and whose length belongs to h, has the period h -/
def repAt (len : Nat → Nat) (l : List UInt8) (e h : Nat) : Bool := ((l.take e).drop (e - len h)).drop h == (((l.take e).drop (e - len h)).take (len h - h))
/-- the first repetition: the end, then the period -/
def repEnd (len : Nat → Nat) (l : List UInt8) (e : Nat) : Option Nat := (List.range e).findSome? fun i => if len (i + 1) ≤ e ∧ repAt len l e (i + 1) = true then some (i + 1) else none
def repFst (len : Nat → Nat) (l : List UInt8) : Option (Nat × Nat) := (List.range l.length).findSome? fun i => (repEnd len l (i + 1)).map fun h => (i + 1, h)
/-- letters over ByteArrays as lists -/
theorem bl_app (u v : ByteArray) : bl (u ++ v) = bl u ++ bl v := by simp [bl]
theorem bl_letter (x : Nat) : bl (letterN x) = [UInt8.ofNat (97 + x)] := by
  show [UInt8.ofNat ((97 + (x : Int)).toNat)] = _
  rw [show (97 + (x : Int)).toNat = 97 + x by omega]
def leastL (k : Nat) : Nat → List UInt8 → Option (List UInt8)
  | 0, v => some v
  | f + 1, v => (List.range k).findSome? fun x => if freeEnd (v ++ [UInt8.ofNat (97 + x)]) = true then leastL k f (v ++ [UInt8.ofNat (97 + x)]) else none
theorem leastF_map (k : Nat) : ∀ f v, (leastF k f v).map bl = leastL k f (bl v)
  | 0, v => rfl
  | f + 1, v => by
    show ((List.range k).findSome? (tryF k f v)).map bl = (List.range k).findSome? _
    rw [List.map_findSome?]
    congr 1
    funext x
    show (tryF k f v x).map bl = _
    unfold tryF
    rw [bl_app, bl_letter]
    by_cases h : freeEnd (bl v ++ [UInt8.ofNat (97 + x)]) = true
    · rw [if_pos h, if_pos h, leastF_map k f, bl_app, bl_letter]
    · rw [if_neg h, if_neg h]; rfl
def sqfL (k : Nat) : Nat → List (List UInt8)
  | 0 => [[]]
  | j + 1 => ((sqfL k j).flatMap fun v => (List.range k).map fun x => v ++ [UInt8.ofNat (97 + x)]).filter freeEnd
theorem sqf_map (k : Nat) : ∀ j, (sqf k j).map bl = sqfL k j
  | 0 => rfl
  | j + 1 => by
    rw [sqf_succ]
    show _ = ((sqfL k j).flatMap fun v => (List.range k).map fun x => v ++ [UInt8.ofNat (97 + x)]).filter freeEnd
    rw [← sqf_map k j]
    have : ∀ l : List ByteArray, (l.filter freeB).map bl = (l.map bl).filter freeEnd := fun l => by
      rw [List.filter_map]; rfl
    rw [this]
    congr 1
    unfold longer
    rw [List.map_flatMap, List.flatMap_map]
    congr 1
    funext v
    unfold exts
    rw [List.map_map]
    apply List.map_congr_left
    intro x _
    show bl (v ++ letterN x) = _
    rw [bl_app, bl_letter]
theorem sqf_cnt (k j : Nat) : (sqf k j).length = (sqfL k j).length := by rw [← sqf_map, List.length_map]
end Go.Proofs.Ytnnboeeogbgmdaa
