/-
  The sets of tails: what their members are, and how many there can be: plain data.
-/
import Derived.Test.YtlldhmoiahcfpaaSortW
import Derived.Test.YtlldhmoiahcfpaaBegins
import Derived.Test.YtlldhmoiahcfpaaListOk
namespace Go.Proofs.Ytlldhmoiahcfpaa
open Go.RowKit
set_option linter.unusedVariables false
/-- what is left of x behind y -/
def tailB (x y : ByteArray) : ByteArray := x.extract y.size x.size
/-- the pairs of places before (j, k), in rows of n -/
def PairTo (n : Nat) (R : Nat → Nat → ByteArray → Prop) (j k : Nat) (u : ByteArray) : Prop := ∃ i' k', k' < n ∧ (i' < j ∨ (i' = j ∧ k' < k)) ∧ R i' k' u
theorem PairTo.zero {n : Nat} {R : Nat → Nat → ByteArray → Prop} {u : ByteArray} : ¬ PairTo n R 0 0 u := by
  rintro ⟨i', k', _, h, _⟩; omega
theorem PairTo.next {n : Nat} {R : Nat → Nat → ByteArray → Prop} {j k : Nat} (hk : k < n) (u : ByteArray) : PairTo n R j (k + 1) u ↔ PairTo n R j k u ∨ R j k u := by
  constructor
  · rintro ⟨i', k', h1, h2, h3⟩
    by_cases e : i' = j ∧ k' = k
    · rw [e.1, e.2] at h3; exact .inr h3
    · exact .inl ⟨i', k', h1, by omega, h3⟩
  · rintro (⟨i', k', h1, h2, h3⟩ | h)
    · exact ⟨i', k', h1, by omega, h3⟩
    · exact ⟨j, k, hk, by omega, h⟩
theorem PairTo.row {n : Nat} {R : Nat → Nat → ByteArray → Prop} {j : Nat} (u : ByteArray) : PairTo n R j n u ↔ PairTo n R (j + 1) 0 u := by
  constructor
  · rintro ⟨i', k', h1, h2, h3⟩; exact ⟨i', k', h1, by omega, h3⟩
  · rintro ⟨i', k', h1, h2, h3⟩; exact ⟨i', k', h1, by omega, h3⟩
/-- the members of the first set -/
def firstM (l : List ByteArray) (u : ByteArray) : Prop := ∃ x ∈ l, ∃ y ∈ l, x ≠ y ∧ begP x y ∧ u = tailB x y
/-- the members of the set behind X -/
def nextM (l X : List ByteArray) (u : ByteArray) : Prop := ∃ t ∈ X, ∃ w ∈ l, (t.size ≠ 0 ∧ begP w t ∧ u = tailB w t) ∨ (begP t w ∧ u = tailB t w)
def firstR (l : List ByteArray) (i k : Nat) (u : ByteArray) : Prop := i ≠ k ∧ begP (nthS l i) (nthS l k) ∧ u = tailB (nthS l i) (nthS l k)
def nextR (l X : List ByteArray) (i k : Nat) (u : ByteArray) : Prop := ((nthS X i).size ≠ 0 ∧ begP (nthS l k) (nthS X i) ∧ u = tailB (nthS l k) (nthS X i)) ∨ (begP (nthS X i) (nthS l k) ∧ u = tailB (nthS X i) (nthS l k))
theorem nthS_mem {l : List ByteArray} {i : Nat} (h : i < l.length) : nthS l i ∈ l := by rw [nthS_lt h]; exact List.getElem_mem h
theorem mem_nthS {l : List ByteArray} {u : ByteArray} (h : u ∈ l) : ∃ i, i < l.length ∧ nthS l i = u := by
  obtain ⟨i, hi, he⟩ := List.getElem_of_mem h
  exact ⟨i, hi, by rw [nthS_lt hi, he]⟩
theorem nodup_nth {l : List ByteArray} (hn : l.Nodup) {i k : Nat} (hi : i < l.length) (hk : k < l.length) (h : nthS l i = nthS l k) : i = k := by
  rw [nthS_lt hi, nthS_lt hk] at h
  rcases Nat.lt_trichotomy i k with e | e | e
  · exact absurd h ((List.pairwise_iff_getElem.1 hn) i k hi hk e)
  · exact e
  · exact absurd h.symm ((List.pairwise_iff_getElem.1 hn) k i hk hi e)
theorem firstR_all {l : List ByteArray} (hn : l.Nodup) (u : ByteArray) : PairTo l.length (firstR l) l.length 0 u ↔ firstM l u := by
  constructor
  · rintro ⟨i, k, hk, hi, hne, hb, rfl⟩
    have hi2 : i < l.length := by omega
    exact ⟨_, nthS_mem hi2, _, nthS_mem hk, fun e => hne (nodup_nth hn hi2 hk e), hb, rfl⟩
  · rintro ⟨x, hx, y, hy, hne, hb, rfl⟩
    obtain ⟨i, hi, rfl⟩ := mem_nthS hx
    obtain ⟨k, hk, rfl⟩ := mem_nthS hy
    exact ⟨i, k, hk, .inl hi, fun e => hne (by rw [e]), hb, rfl⟩
theorem nextR_all {l X : List ByteArray} (u : ByteArray) : PairTo l.length (nextR l X) X.length 0 u ↔ nextM l X u := by
  constructor
  · rintro ⟨i, k, hk, hi, h⟩
    have hi2 : i < X.length := by omega
    exact ⟨_, nthS_mem hi2, _, nthS_mem hk, h⟩
  · rintro ⟨x, hx, y, hy, h⟩
    obtain ⟨i, hi, rfl⟩ := mem_nthS hx
    obtain ⟨k, hk, rfl⟩ := mem_nthS hy
    exact ⟨i, k, hk, .inl hi, h⟩
/-- a proper end of a word of the list -/
def sufP (l : List ByteArray) (u : ByteArray) : Prop := ∃ w ∈ l, ∃ i, 1 ≤ i ∧ i ≤ w.size ∧ u = w.extract i w.size
/-- all of them -/
def uniW (l : List ByteArray) : List ByteArray := ⟨#[]⟩ :: l.flatMap fun w => (List.range (w.size - 1)).map fun i => w.extract (i + 1) w.size
theorem size_zero {u : ByteArray} (h : u.size = 0) : u = ⟨#[]⟩ := by
  obtain ⟨⟨x⟩⟩ := u
  cases x with
  | nil => rfl
  | cons a t => simp [ByteArray.size] at h
theorem sufP_uni {l : List ByteArray} {u : ByteArray} (h : sufP l u) : u ∈ uniW l := by
  obtain ⟨w, hw, i, h1, h2, rfl⟩ := h
  unfold uniW
  rw [List.mem_cons]
  by_cases e : i = w.size
  · left; exact size_zero (by rw [ByteArray.size_extract]; omega)
  · right
    rw [List.mem_flatMap]
    exact ⟨w, hw, List.mem_map.2 ⟨i - 1, List.mem_range.2 (by omega), by rw [show i - 1 + 1 = i by omega]⟩⟩
theorem uniW_len {l : List ByteArray} (h1 : l.length ≤ 8) (h2 : ∀ w ∈ l, w.size ≤ 6) : (uniW l).length ≤ 41 := by
  have key : ∀ l : List ByteArray, (∀ w ∈ l, w.size ≤ 6) → (l.flatMap fun w => (List.range (w.size - 1)).map fun i => w.extract (i + 1) w.size).length ≤ 5 * l.length := by
    intro l
    induction l with
    | nil => intro _; simp
    | cons a l ih =>
      intro h
      have h3 := ih (fun w hw => h w (List.mem_cons_of_mem _ hw))
      have h4 := h a List.mem_cons_self
      rw [List.flatMap_cons, List.length_append, List.length_map, List.length_range, List.length_cons]
      omega
  have := key l h2
  unfold uniW
  rw [List.length_cons]
  omega
theorem sufP_size {l : List ByteArray} (h2 : ∀ w ∈ l, w.size ≤ 6) {u : ByteArray} (h : sufP l u) : u.size ≤ 6 := by
  obtain ⟨w, hw, i, h1, h3, rfl⟩ := h
  have := h2 w hw
  rw [ByteArray.size_extract]; omega
theorem firstM_suf {l : List ByteArray} (h1 : ∀ w ∈ l, 1 ≤ w.size) {u : ByteArray} (h : firstM l u) : sufP l u := by
  obtain ⟨x, hx, y, hy, hne, hb, rfl⟩ := h
  exact ⟨x, hx, y.size, h1 y hy, hb.1, rfl⟩
theorem extract_ext (w : ByteArray) (i j : Nat) (h : i + j ≤ w.size) : (w.extract i w.size).extract j (w.extract i w.size).size = w.extract (i + j) w.size := by
  rw [ByteArray.extract_extract, ByteArray.size_extract]
  congr 1
  omega
theorem nextM_suf {l X : List ByteArray} (h1 : ∀ w ∈ l, 1 ≤ w.size) (hX : ∀ t ∈ X, sufP l t) {u : ByteArray} (h : nextM l X u) : sufP l u := by
  obtain ⟨t, ht, w, hw, ⟨h2, h3, rfl⟩ | ⟨h3, rfl⟩⟩ := h
  · exact ⟨w, hw, t.size, by omega, h3.1, rfl⟩
  · obtain ⟨x, hx, i, hi1, hi2, rfl⟩ := hX t ht
    have h4 := h3.1
    rw [ByteArray.size_extract] at h4
    exact ⟨x, hx, i + w.size, by omega, by omega, extract_ext x i w.size (by omega)⟩
theorem nodup_subL {q U : List (List UInt8)} (hq : q.Nodup) (h : ∀ u ∈ q, u ∈ U) : q.length ≤ U.length := by
  have h1 : (q.map fun u => U.idxOf u).Nodup := nodup_map hq (fun x hx y hy he => by
    have h2 := List.idxOf_lt_length_iff.2 (h x hx)
    have h3 := List.idxOf_lt_length_iff.2 (h y hy)
    have e1 := List.getElem_idxOf h2
    have e2 := List.getElem_idxOf h3
    rw [← e1, ← e2]
    congr 1)
  have h2 := nodup_bound U.length _ h1 (fun z hz => by
    obtain ⟨x, hx, rfl⟩ := List.mem_map.1 hz
    exact List.idxOf_lt_length_iff.2 (h x hx))
  rwa [List.length_map] at h2
/-- a list without doubles over another is no longer -/
theorem nodup_sub {q U : List ByteArray} (hq : q.Nodup) (h : ∀ u ∈ q, u ∈ U) : q.length ≤ U.length := by
  have h1 : (blsW q).Nodup := by
    unfold blsW List.Nodup
    rw [List.pairwise_map]
    exact List.Pairwise.imp (fun h e => h (blW_inj e)) hq
  have h2 := nodup_subL h1 (U := blsW U) (fun u hu => by
    obtain ⟨v, hv, rfl⟩ := List.mem_map.1 hu
    exact blsW_mem.2 (h v hv))
  rwa [blsW_len, blsW_len] at h2
/-- what is asked of a list of words that is in order -/
structure LOk (l : List ByteArray) : Prop where
  lo : 1 ≤ l.length
  hi : l.length ≤ 8
  w1 : ∀ w ∈ l, 1 ≤ w.size
  w6 : ∀ w ∈ l, w.size ≤ 6
  nd : l.Nodup
theorem LOk.of {l : List ByteArray} (h : listP l) : LOk l := by
  refine ⟨h.1.1, h.1.2, fun w hw => ?_, fun w hw => ?_, ?_⟩
  · obtain ⟨i, hi, rfl⟩ := mem_nthS hw; exact (h.2 i hi).2.1.1
  · obtain ⟨i, hi, rfl⟩ := mem_nthS hw; exact (h.2 i hi).2.1.2
  · refine List.pairwise_iff_getElem.2 (fun i k hi hk hik he => ?_)
    have h1 := (h.2 k hk).2.2
    rw [nthS_lt hk, ← he] at h1
    exact h1 (List.mem_iff_getElem.2 ⟨i, by rw [List.length_take]; omega, by rw [List.getElem_take]⟩)
theorem LOk.sz {l : List ByteArray} (h : LOk l) {i : Nat} (hi : i < l.length) : (nthS l i).size ≤ 6 := h.w6 _ (nthS_mem hi)
theorem LOk.set {l q : List ByteArray} (h : LOk l) (hq : q.Nodup) (hs : ∀ u ∈ q, sufP l u) : q.length ≤ 41 :=
  Nat.le_trans (nodup_sub hq (fun u hu => sufP_uni (hs u hu))) (uniW_len h.hi h.w6)
end Go.Proofs.Ytlldhmoiahcfpaa
