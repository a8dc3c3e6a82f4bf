/-
  The distances of the elements of a table: what the least words say.
-/
import Derived.Test.YtmgdglghjlggnaaGreatGway01
import Derived.Test.YtmgdglghjlggnaaGreatGway06
import Derived.Test.YtmgdglghjlggnaaGreatGway08
import Derived.Test.YtmgdglghjlggnaaGreatGway03
namespace Go.Proofs.YtmgdglghjlggnaaGreat
open Go.RowKit
set_option linter.unusedVariables false
def hyB : ByteArray := ⟨#[45]⟩
/-- the word of a list of letters' numbers, and the list's rank -/
def wdN (ys : List Nat) : ByteArray := ys.foldl (fun u y => u ++ letterN y) ⟨#[]⟩
def rkN (ys : List Nat) : Nat := ys.foldl (fun a y => 5 * a + y + 1) 0
theorem wdN_snoc (ys : List Nat) (y : Nat) : wdN (ys ++ [y]) = wdN ys ++ letterN y := by unfold wdN; rw [List.foldl_append]; rfl
theorem rkN_snoc (ys : List Nat) (y : Nat) : rkN (ys ++ [y]) = 5 * rkN ys + y + 1 := by unfold rkN; rw [List.foldl_append]; rfl
theorem wdN_fold : ∀ (ys : List Nat) (u : ByteArray), (ys.foldl (fun u y => u ++ letterN y) u).data.toList = u.data.toList ++ ys.map lt97
  | [], u => by simp
  | y :: ys, u => by
    rw [List.foldl_cons, wdN_fold ys, app_lt, List.map_cons, List.append_assoc]; rfl
theorem wdN_list (ys : List Nat) : (wdN ys).data.toList = ys.map lt97 := by unfold wdN; rw [wdN_fold]; rfl
theorem wdN_size (ys : List Nat) : (wdN ys).size = ys.length := by
  have h : (wdN ys).data.toList.length = (wdN ys).size := rfl
  rw [wdN_list, List.length_map] at h
  exact h.symm
theorem lt97_num {y : Nat} (h : y < 4) : (lt97 y).toNat = 97 + y := by unfold lt97; simp; omega
theorem wdN_ne (ys : List Nat) (h : ∀ y ∈ ys, y < 4) : wdN ys ≠ hyB := fun e => by
  have h2 := congrArg (fun u : ByteArray => u.data.toList) e
  simp only [wdN_list] at h2
  have h3 : hyB.data.toList = [45] := rfl
  rw [h3] at h2
  cases ys with
  | nil => cases h2
  | cons y ys =>
    rw [List.map_cons] at h2
    have h4 := (List.cons.inj h2).1
    have h5 := lt97_num (h y List.mem_cons_self)
    rw [h4] at h5
    have : (45 : UInt8).toNat = 45 := rfl
    omega
theorem rk_wdN_fold : ∀ (ys : List Nat) (a : Nat) (v : List UInt8), (∀ y ∈ ys, y < 4) → a = rk v → ys.foldl (fun a y => 5 * a + y + 1) a = rk (v ++ ys.map lt97)
  | [], a, v, _, e => by simp [e]
  | y :: ys, a, v, h, e => by
    have h5 := lt97_num (h y List.mem_cons_self)
    rw [List.foldl_cons, List.map_cons]
    rw [rk_wdN_fold ys (5 * a + y + 1) (v ++ [lt97 y]) (fun z hz => h z (List.mem_cons_of_mem _ hz)) ?_]
    · rw [List.append_assoc]; rfl
    · rw [rk_app, e, rk_cons, h5]
      have : rk [] = 0 := rfl
      simp only [List.length_nil, List.length_cons, Nat.zero_add, Nat.pow_one, Nat.pow_zero, Nat.mul_one, this]
      omega
theorem rk_wdN {ys : List Nat} (h : ∀ y ∈ ys, y < 4) : rk (wdN ys).data.toList = rkN ys := by
  rw [wdN_list]
  exact (rk_wdN_fold ys 0 [] h rfl).symm
/-- the step of a letter -/
def nxT (m : Nat) (ln zn : List Nat) (d y : Nat) : Nat := tm m ln d (zn.getD y 0)
theorem val_wdN_fold (m : Nat) (ln zn : List Nat) : ∀ (ys : List Nat) (x : Nat), (∀ y ∈ ys, y < 4) → (ys.map lt97).foldl (fun x c => tm m ln x (imN zn c)) x = ys.foldl (nxT m ln zn) x
  | [], x, _ => rfl
  | y :: ys, x, h => by
    have h5 := lt97_num (h y List.mem_cons_self)
    have e : imN zn (lt97 y) = zn.getD y 0 := by unfold imN; rw [h5, Nat.add_sub_cancel_left]
    rw [List.map_cons, List.foldl_cons, List.foldl_cons, e]
    exact val_wdN_fold m ln zn ys _ (fun z hz => h z (List.mem_cons_of_mem _ hz))
theorem val_wdN (m : Nat) (ln zn : List Nat) {ys : List Nat} (h : ∀ y ∈ ys, y < 4) : valF m ln zn (wdN ys) = ys.foldl (nxT m ln zn) 0 := by
  have e : valF m ln zn (wdN ys) = (wdN ys).data.toList.foldl (fun x c => tm m ln x (imN zn c)) 0 := by
    have e2 : (wdN ys).data.toList.take (wdN ys).size = (wdN ys).data.toList := List.take_of_length_le (Nat.le_of_eq rfl)
    unfold valF valTo
    rw [e2]
  rw [e, wdN_list]
  exact val_wdN_fold m ln zn ys 0 h
/-- a search under way: S the words told, D done, Q waiting, j letters done with the first of Q -/
def ShP (m : Nat) (ln zn : List Nat) (S : List ByteArray) (D Q : List Nat) (j : Nat) : Prop :=
  ∃ O : Nat → List Nat, S.length = m ∧ BfsP rkN (fun u y => u ++ [y]) [] (nxT m ln zn) zn.length O D Q j ∧ (∀ v ∈ D ++ Q, v < m) ∧ (∀ v ∈ D ++ Q, nthS S v = wdN (O v)) ∧ ∀ v, v < m → v ∉ D ++ Q → nthS S v = hyB
theorem foldl_snoc : ∀ (ys u : List Nat), ys.foldl (fun u y => u ++ [y]) u = u ++ ys
  | [], u => by simp
  | y :: ys, u => by rw [List.foldl_cons, foldl_snoc]; simp
section
variable {m : Nat} {ln zn : List Nat} {S : List ByteArray} {D Q : List Nat} {j : Nat}
theorem ShP.let (h : ShP m ln zn S D Q j) (hz4 : zn.length ≤ 4) {v : Nat} (hv : v ∈ D ++ Q) : ∃ ys : List Nat, (∀ y ∈ ys, y < zn.length) ∧ nthS S v = wdN ys ∧ ys.foldl (nxT m ln zn) 0 = v ∧ ys.length < (D ++ Q).length := by
  obtain ⟨O, h1, h2, h3, h4, h5⟩ := h
  obtain ⟨i, hi, rfl⟩ := List.getElem_of_mem hv
  obtain ⟨ys, a1, a2, a3, a4⟩ := h2.way i hi
  rw [foldl_snoc, List.nil_append] at a2
  exact ⟨ys, a1, by rw [h4 _ (List.getElem_mem hi), a2], a3, by omega⟩
theorem ShP.few (h : ShP m ln zn S D Q j) : (D ++ Q).length ≤ m := by
  obtain ⟨O, h1, h2, h3, h4, h5⟩ := h
  exact nodup_bound m _ h2.nd h3
theorem ShP.hy (h : ShP m ln zn S D Q j) (hz4 : zn.length ≤ 4) {v : Nat} (hv : v < m) : v ∈ D ++ Q ↔ nthS S v ≠ hyB := by
  constructor
  · intro hm
    obtain ⟨ys, a1, a2, _⟩ := h.let hz4 hm
    rw [a2]
    exact wdN_ne ys (fun y hy => by have := a1 y hy; omega)
  · intro hn
    obtain ⟨O, h1, h2, h3, h4, h5⟩ := h
    exact Classical.byContradiction fun hc => hn (h5 v hv hc)
theorem ShP.size (h : ShP m ln zn S D Q j) (hz4 : zn.length ≤ 4) (hm : m ≤ 40) (v : Nat) (hv : v < m) : (nthS S v).size ≤ 40 := by
  by_cases hc : v ∈ D ++ Q
  · obtain ⟨ys, a1, a2, a3, a4⟩ := h.let hz4 hc
    have := h.few
    rw [a2, wdN_size]; omega
  · obtain ⟨O, h1, h2, h3, h4, h5⟩ := h
    rw [h5 v hv hc]
    exact (by decide : hyB.size ≤ 40)
theorem nthS_set_same {S : List ByteArray} {v : Nat} (x : ByteArray) (h : v < S.length) : nthS (S.set v x) v = x := by
  rw [nthS_lt (by rw [List.length_set]; exact h)]
  simp
theorem nthS_set_ne {S : List ByteArray} {v i : Nat} (x : ByteArray) (h : i ≠ v) : nthS (S.set v x) i = nthS S i := by
  unfold nthS
  simp [List.getD_eq_getElem?_getD, h.symm]
theorem ShP.start (hm : 1 ≤ m) : ShP m ln zn ((List.replicate m hyB).set 0 ⟨#[]⟩) [] [0] 0 := by
  refine ⟨fun _ => [], by simp, BfsP.start rfl, fun v hv => ?_, fun v hv => ?_, fun v hv hn => ?_⟩
  · have : v = 0 := by simpa using hv
    omega
  · obtain rfl : v = 0 := by simpa using hv
    exact nthS_set_same _ (by simp; omega)
  · have h0 : v ≠ 0 := by simpa using hn
    rw [nthS_set_ne _ h0, nthS_lt (by simpa using hv)]
    simp
theorem ShP.head (h : ShP m ln zn S D Q j) {q : Nat} (hq : Q.head? = some q) : q < m := by
  obtain ⟨O, h1, h2, h3, h4, h5⟩ := h
  exact h3 q (List.mem_append.2 (.inr (List.mem_of_mem_head? hq)))
theorem ShP.old (h : ShP m ln zn S D Q j) (hz4 : zn.length ≤ 4) {q : Nat} (hq : Q.head? = some q) (hlt : nxT m ln zn q j < m) (hm : nthS S (nxT m ln zn q j) ≠ hyB) : ShP m ln zn S D Q (j + 1) := by
  have hmem := (h.hy hz4 hlt).2 hm
  obtain ⟨O, h1, h2, h3, h4, h5⟩ := h
  exact ⟨O, h1, h2.old rkN_snoc rfl hz4 hq hmem, h3, h4, h5⟩
theorem ShP.new (h : ShP m ln zn S D Q j) (hz4 : zn.length ≤ 4) (hj : j < zn.length) {q : Nat} (hq : Q.head? = some q) (hlt : nxT m ln zn q j < m) (hm : nthS S (nxT m ln zn q j) = hyB) :
    ShP m ln zn (S.set (nxT m ln zn q j) (nthS S q ++ letterN j)) D (Q ++ [nxT m ln zn q j]) (j + 1) := by
  have hmem : nxT m ln zn q j ∉ D ++ Q := fun hc => (h.hy hz4 hlt).1 hc hm
  obtain ⟨O, h1, h2, h3, h4, h5⟩ := h
  have hqm : q ∈ D ++ Q := List.mem_append.2 (.inr (List.mem_of_mem_head? hq))
  have ea : ∀ v, v ∈ D ++ (Q ++ [nxT m ln zn q j]) ↔ v ∈ D ++ Q ∨ v = nxT m ln zn q j := fun v => by rw [← List.append_assoc, List.mem_append (s := D ++ Q), List.mem_singleton]
  refine ⟨putO O (nxT m ln zn q j) (O q ++ [j]), by rw [List.length_set]; exact h1, h2.new rkN_snoc rfl hz4 hj hq hmem, fun v hv => ?_, fun v hv => ?_, fun v hv hn => ?_⟩
  · rcases (ea v).1 hv with h6 | rfl
    · exact h3 v h6
    · exact hlt
  · rcases (ea v).1 hv with h6 | rfl
    · have hne : v ≠ nxT m ln zn q j := fun e => hmem (e ▸ h6)
      rw [nthS_set_ne _ hne, putO_ne _ hne]
      exact h4 v h6
    · rw [nthS_set_same _ (by rw [h1]; exact hlt), putO_at, wdN_snoc, h4 q hqm]
  · have h6 : ¬ (v ∈ D ++ Q ∨ v = nxT m ln zn q j) := fun hc => hn ((ea v).2 hc)
    rw [nthS_set_ne _ (fun e => h6 (.inr e))]
    exact h5 v hv (fun hc => h6 (.inl hc))
theorem ShP.next {q : Nat} {Qt : List Nat} (h : ShP m ln zn S D (q :: Qt) zn.length) : ShP m ln zn S (D ++ [q]) Qt 0 := by
  obtain ⟨O, h1, h2, h3, h4, h5⟩ := h
  have ea : (D ++ [q]) ++ Qt = D ++ q :: Qt := by simp
  exact ⟨O, h1, h2.next rfl rfl, by rw [ea]; exact h3, by rw [ea]; exact h4, by rw [ea]; exact h5⟩
end
/-- the least words of all elements -/
structure ShortP (m : Nat) (ln zn : List Nat) (S : List ByteArray) : Prop where
  len : S.length = m
  none : ∀ i, i < m → nthS S i = hyB → ∀ zs : List Nat, (∀ z ∈ zs, z < zn.length) → zs.foldl (nxT m ln zn) 0 ≠ i
  some : ∀ i, i < m → nthS S i ≠ hyB → ∃ ys : List Nat, (∀ y ∈ ys, y < zn.length) ∧ ys.length < m ∧ nthS S i = wdN ys ∧ ys.foldl (nxT m ln zn) 0 = i ∧ ∀ zs : List Nat, (∀ z ∈ zs, z < zn.length) → zs.foldl (nxT m ln zn) 0 = i → rkN ys ≤ rkN zs
theorem ShP.done {m : Nat} {ln zn : List Nat} {S : List ByteArray} {D : List Nat} {j : Nat} (h : ShP m ln zn S D [] j) (hz4 : zn.length ≤ 4) : ShortP m ln zn S := by
  have hfew := h.few
  have hmem := fun v hv => h.hy (v := v) hz4 hv
  obtain ⟨O, h1, h2, h3, h4, h5⟩ := h
  have hd := h2.done rkN_snoc
  rw [List.append_nil] at hfew
  refine ⟨h1, fun i hi hn zs hzs e => ?_, fun i hi hn => ?_⟩
  · obtain ⟨a, _⟩ := hd zs hzs
    rw [e] at a
    exact (hmem i hi).1 (by rw [List.append_nil]; exact a) hn
  · have hm := (hmem i hi).2 hn
    obtain ⟨p, hp, e⟩ := List.getElem_of_mem hm
    obtain ⟨ys, a1, a2, a3, a4⟩ := h2.way p hp
    rw [foldl_snoc, List.nil_append] at a2
    rw [e] at a2 a3
    have hp2 : p < D.length := by simpa using hp
    refine ⟨ys, a1, by omega, by rw [h4 i hm, a2], a3, fun zs hzs ez => ?_⟩
    obtain ⟨_, b⟩ := hd zs hzs
    rw [ez, foldl_snoc, List.nil_append, a2] at b
    exact b
end Go.Proofs.YtmgdglghjlggnaaGreat
namespace Go.Proofs.YtmgdglghjlggnaaGreat
open Go.RowKit
set_option linter.unusedVariables false
/-- c is added to the number at place p -/
def addAt (l : List Nat) (p c : Nat) : List Nat := l.set p (l.getD p 0 + c)
theorem addAt_len (l : List Nat) (p c : Nat) : (addAt l p c).length = l.length := by simp [addAt]
theorem addAt_get {l : List Nat} {p : Nat} (c v : Nat) (h : p < l.length) : (addAt l p c).getD v 0 = l.getD v 0 + if v = p then c else 0 := by
  unfold addAt
  simp only [List.getD_eq_getElem?_getD, List.getElem?_set]
  by_cases e : v = p
  · subst e; simp [h]
  · rw [if_neg (fun h => e h.symm), if_neg e]; simp
theorem addAt_sum : ∀ {l : List Nat} {p : Nat} (c : Nat), p < l.length → (addAt l p c).sum = l.sum + c
  | a :: l, 0, c, _ => by simp [addAt]; omega
  | a :: l, p + 1, c, h => by
    have ih := addAt_sum (l := l) (p := p) c (by simpa using h)
    unfold addAt at ih ⊢
    rw [List.set_cons_succ, List.sum_cons, List.sum_cons, show (a :: l).getD (p + 1) 0 = l.getD p 0 from rfl, ih]
    omega
section
variable {m : Nat} {ln zn : List Nat}
/-- the step of one element, with y letters done -/
def rowV (m : Nat) (ln zn : List Nat) (c : Nat) (i : Nat) (nx : List Nat) : Nat → List Nat
  | 0 => nx
  | y + 1 => addAt (rowV m ln zn c i nx y) (nxT m ln zn i y) c
/-- one more letter, with i elements done -/
def stepV (m : Nat) (ln zn now : List Nat) : Nat → List Nat
  | 0 => List.replicate m 0
  | i + 1 => rowV m ln zn (now.getD i 0) i (stepV m ln zn now i) zn.length
/-- for each element the words of n letters with this value -/
def valsN (m : Nat) (ln zn : List Nat) : Nat → List Nat
  | 0 => (List.replicate m 0).set 0 1
  | n + 1 => stepV m ln zn (valsN m ln zn n) m
theorem rowV_len (c i : Nat) (nx : List Nat) : ∀ y, (rowV m ln zn c i nx y).length = nx.length
  | 0 => rfl
  | y + 1 => by unfold rowV; rw [addAt_len, rowV_len]
theorem stepV_len (now : List Nat) : ∀ i, (stepV m ln zn now i).length = m
  | 0 => by simp [stepV]
  | i + 1 => by unfold stepV; rw [rowV_len, stepV_len]
theorem valsN_len : ∀ n, (valsN m ln zn n).length = m
  | 0 => by simp [valsN]
  | n + 1 => by unfold valsN; rw [stepV_len]
theorem rowV_sum (hN : ∀ i y, i < m → y < zn.length → nxT m ln zn i y < m) {c i : Nat} (hi : i < m) {nx : List Nat} (hl : nx.length = m) : ∀ y, y ≤ zn.length → (rowV m ln zn c i nx y).sum = nx.sum + y * c
  | 0, _ => by simp [rowV]
  | y + 1, h => by
    unfold rowV
    rw [addAt_sum _ (by rw [rowV_len, hl]; exact hN i y hi (by omega)), rowV_sum hN hi hl y (by omega), Nat.add_mul]
    omega
theorem stepV_sum (hN : ∀ i y, i < m → y < zn.length → nxT m ln zn i y < m) {now : List Nat} (hl : now.length = m) : ∀ i, i ≤ m → (stepV m ln zn now i).sum = zn.length * (now.take i).sum
  | 0, _ => by simp [stepV]
  | i + 1, h => by
    unfold stepV
    rw [rowV_sum hN (by omega) (stepV_len now i) _ (Nat.le_refl _), stepV_sum hN hl i (by omega), List.take_succ_eq_append_getElem (by omega : i < now.length), List.sum_append, List.getD_eq_getElem?_getD, List.getElem?_eq_getElem (by omega : i < now.length)]
    simp [Nat.mul_add]
theorem valsN_sum (hm : 1 ≤ m) (hN : ∀ i y, i < m → y < zn.length → nxT m ln zn i y < m) : ∀ n, (valsN m ln zn n).sum = zn.length ^ n
  | 0 => by
    have h := addAt_sum (l := List.replicate m 0) (p := 0) 1 (by simp; omega)
    unfold addAt at h
    unfold valsN
    rw [Nat.pow_zero]
    have e : (List.replicate m 0).getD 0 0 = 0 := by simp [List.getD_eq_getElem?_getD, List.getElem?_replicate]; split <;> rfl
    rw [e, Nat.zero_add] at h
    rw [h]
    simp
  | n + 1 => by
    unfold valsN
    rw [stepV_sum hN (valsN_len n) m (Nat.le_refl _), List.take_of_length_le (by rw [valsN_len]; omega), valsN_sum hm hN n, Nat.pow_succ, Nat.mul_comm]
theorem rowV_pos (hN : ∀ i y, i < m → y < zn.length → nxT m ln zn i y < m) {c i : Nat} (hi : i < m) {nx : List Nat} (hl : nx.length = m) (v : Nat) : ∀ y, y ≤ zn.length → (0 < (rowV m ln zn c i nx y).getD v 0 ↔ 0 < nx.getD v 0 ∨ 0 < c ∧ ∃ z, z < y ∧ nxT m ln zn i z = v)
  | 0, _ => by simp [rowV]
  | y + 1, h => by
    have ih := rowV_pos hN hi hl v y (by omega) (c := c)
    unfold rowV
    rw [addAt_get _ _ (by rw [rowV_len, hl]; exact hN i y hi (by omega))]
    constructor
    · intro hp
      by_cases e : v = nxT m ln zn i y
      · rw [if_pos e] at hp
        by_cases hc : 0 < c
        · exact .inr ⟨hc, y, by omega, e.symm⟩
        · rcases ih.1 (by omega) with h1 | ⟨h1, z, h2, h3⟩
          · exact .inl h1
          · exact .inr ⟨h1, z, by omega, h3⟩
      · rw [if_neg e] at hp
        rcases ih.1 (by omega) with h1 | ⟨h1, z, h2, h3⟩
        · exact .inl h1
        · exact .inr ⟨h1, z, by omega, h3⟩
    · rintro (h1 | ⟨h1, z, h2, h3⟩)
      · have := ih.2 (.inl h1); omega
      · by_cases e : z = y
        · subst e
          rw [if_pos h3.symm]; omega
        · have := ih.2 (.inr ⟨h1, z, by omega, h3⟩); omega
theorem stepV_pos (hN : ∀ i y, i < m → y < zn.length → nxT m ln zn i y < m) (now : List Nat) (v : Nat) : ∀ i, i ≤ m → (0 < (stepV m ln zn now i).getD v 0 ↔ ∃ p, p < i ∧ 0 < now.getD p 0 ∧ ∃ z, z < zn.length ∧ nxT m ln zn p z = v)
  | 0, _ => by
    have e : (List.replicate m 0).getD v 0 = 0 := by simp [List.getD_eq_getElem?_getD, List.getElem?_replicate]; split <;> rfl
    unfold stepV
    rw [e]
    simp
  | i + 1, h => by
    unfold stepV
    rw [rowV_pos hN (by omega) (stepV_len now i) v _ (Nat.le_refl _), stepV_pos hN now v i (by omega)]
    constructor
    · rintro (⟨p, h1, h2, h3⟩ | ⟨h1, h3⟩)
      · exact ⟨p, by omega, h2, h3⟩
      · exact ⟨i, by omega, h1, h3⟩
    · rintro ⟨p, h1, h2, h3⟩
      by_cases e : p = i
      · subst e; exact .inr ⟨h2, h3⟩
      · exact .inl ⟨p, by omega, h2, h3⟩
theorem way_lt (hm : 1 ≤ m) (hN : ∀ i y, i < m → y < zn.length → nxT m ln zn i y < m) : ∀ (ys : List Nat) (x : Nat), x < m → (∀ y ∈ ys, y < zn.length) → ys.foldl (nxT m ln zn) x < m
  | [], x, hx, _ => hx
  | y :: ys, x, hx, h => way_lt hm hN ys _ (hN x y hx (h y (List.mem_cons_self ..))) fun z hz => h z (List.mem_cons_of_mem _ hz)
/-- a word of n letters has the value v exactly if the count is not 0 -/
theorem valsN_pos (hm : 1 ≤ m) (hN : ∀ i y, i < m → y < zn.length → nxT m ln zn i y < m) : ∀ (n v : Nat), (0 < (valsN m ln zn n).getD v 0 ↔ ∃ ys : List Nat, ys.length = n ∧ (∀ y ∈ ys, y < zn.length) ∧ ys.foldl (nxT m ln zn) 0 = v)
  | 0, v => by
    have h := addAt_get (l := List.replicate m 0) (p := 0) 1 v (by simp; omega)
    have e : ∀ j, (List.replicate m 0).getD j 0 = 0 := fun j => by simp [List.getD_eq_getElem?_getD, List.getElem?_replicate]; split <;> rfl
    unfold addAt at h
    rw [e, e, Nat.zero_add, Nat.zero_add] at h
    unfold valsN
    rw [h]
    constructor
    · intro hp
      by_cases hv : v = 0
      · exact ⟨[], rfl, fun y hy => (by cases hy), hv.symm⟩
      · rw [if_neg hv] at hp; omega
    · rintro ⟨ys, h1, _, h3⟩
      obtain rfl := List.length_eq_zero_iff.1 h1
      have h4 : v = 0 := h3.symm
      rw [if_pos h4]; omega
  | n + 1, v => by
    unfold valsN
    rw [stepV_pos hN _ v m (Nat.le_refl _)]
    constructor
    · rintro ⟨p, h1, h2, z, h3, h4⟩
      obtain ⟨ys, a1, a2, a3⟩ := (valsN_pos hm hN n p).1 h2
      refine ⟨ys ++ [z], by simp [a1], fun y hy => ?_, by rw [List.foldl_append, a3]; exact h4⟩
      rcases List.mem_append.1 hy with h | h
      · exact a2 y h
      · rw [List.mem_singleton.1 h]; exact h3
    · rintro ⟨ys, h1, h2, h3⟩
      rcases List.eq_nil_or_concat ys with rfl | ⟨zs, z, rfl⟩
      · cases h1
      · rw [List.concat_eq_append] at h1 h2 h3
        rw [List.foldl_append] at h3
        have h2' : ∀ y ∈ zs, y < zn.length := fun y hy => h2 y (by simp [hy])
        exact ⟨_, way_lt hm hN zs 0 (by omega) h2', (valsN_pos hm hN n _).2 ⟨zs, by simpa using h1, h2', rfl⟩, z, h2 z (by simp), h3⟩
end
theorem snoc_ind {P : List Nat → Prop} (h0 : P []) (h1 : ∀ ys y, P ys → P (ys ++ [y])) : ∀ (n : Nat) (ys : List Nat), ys.length = n → P ys
  | 0, ys, h => by rw [List.length_eq_zero_iff.1 h]; exact h0
  | n + 1, ys, h => by
    rcases List.eq_nil_or_concat ys with rfl | ⟨zs, z, rfl⟩
    · exact h0
    · rw [List.concat_eq_append] at h ⊢
      exact h1 zs z (snoc_ind h0 h1 n zs (by simpa using h))
theorem rkN_lt {ys : List Nat} : (∀ y ∈ ys, y < 4) → rkN ys < 5 ^ ys.length := by
  refine snoc_ind (P := fun ys => (∀ y ∈ ys, y < 4) → rkN ys < 5 ^ ys.length) (fun _ => by decide) (fun ys y ih h => ?_) _ ys rfl
  have h1 := ih fun z hz => h z (by simp [hz])
  have h2 := h y (by simp)
  rw [rkN_snoc, List.length_append, List.length_singleton, Nat.pow_succ]
  omega
theorem rkN_ge {ys : List Nat} : 5 ^ ys.length ≤ 4 * rkN ys + 1 := by
  refine snoc_ind (P := fun ys => 5 ^ ys.length ≤ 4 * rkN ys + 1) (by decide) (fun ys y ih => ?_) _ ys rfl
  rw [rkN_snoc, List.length_append, List.length_singleton, Nat.pow_succ]
  omega
/-- the lesser rank has no more letters -/
theorem rkN_len {ys zs : List Nat} (hz : ∀ z ∈ zs, z < 4) (h : rkN ys ≤ rkN zs) : ys.length ≤ zs.length := by
  refine Nat.le_of_not_lt fun hl => ?_
  have h1 := rkN_ge (ys := ys)
  have h2 := rkN_lt hz
  have h3 : 5 ^ (zs.length + 1) ≤ 5 ^ ys.length := Nat.pow_le_pow_right (by omega) hl
  rw [Nat.pow_succ] at h3
  omega
end Go.Proofs.YtmgdglghjlggnaaGreat
namespace Go.Proofs.YtmgdglghjlggnaaGreat
open Go.RowKit
set_option linter.unusedVariables false
theorem rkN_inj : ∀ {ys zs : List Nat}, (∀ y ∈ ys, y < 4) → (∀ z ∈ zs, z < 4) → rkN ys = rkN zs → ys = zs := fun {ys} => by
  refine snoc_ind (P := fun ys => ∀ {zs : List Nat}, (∀ y ∈ ys, y < 4) → (∀ z ∈ zs, z < 4) → rkN ys = rkN zs → ys = zs) (fun {zs} _ hz e => ?_) (fun ys y ih {zs} hy hz e => ?_) _ ys rfl
  · rcases List.eq_nil_or_concat zs with rfl | ⟨us, u, rfl⟩
    · rfl
    · rw [List.concat_eq_append, rkN_snoc] at e
      have : rkN [] = 0 := rfl
      omega
  · rcases List.eq_nil_or_concat zs with rfl | ⟨us, u, rfl⟩
    · rw [rkN_snoc] at e
      have : rkN [] = 0 := rfl
      omega
    · rw [List.concat_eq_append] at hz e ⊢
      rw [rkN_snoc, rkN_snoc] at e
      have h1 := hy y (by simp)
      have h2 := hz u (by simp)
      obtain rfl : y = u := by omega
      rw [ih (zs := us) (fun z hz => hy z (by simp [hz])) (fun z hz2 => hz z (by simp [hz2])) (by omega)]
section
variable {m : Nat} {ln zn : List Nat} {S : List ByteArray}
theorem ShortP.uniq (h : ShortP m ln zn S) (hz4 : zn.length ≤ 4) {S' : List ByteArray} (h' : ShortP m ln zn S') : S = S' := by
  refine List.ext_getElem (by rw [h.len, h'.len]) fun i hi hi' => ?_
  rw [← nthS_lt hi, ← nthS_lt hi']
  have hm : i < m := by rw [← h.len]; exact hi
  by_cases e : nthS S i = hyB
  · rw [e]
    refine Classical.byContradiction fun hc => ?_
    obtain ⟨ys, a1, _, _, a4, _⟩ := h'.some i hm (fun e2 => hc e2.symm)
    exact h.none i hm e ys a1 a4
  · obtain ⟨ys, a1, a2, a3, a4, a5⟩ := h.some i hm e
    by_cases e' : nthS S' i = hyB
    · exact absurd a4 (h'.none i hm e' ys a1)
    · obtain ⟨zs, b1, b2, b3, b4, b5⟩ := h'.some i hm e'
      have h1 := a5 zs b1 b4
      have h2 := b5 ys a1 a4
      have e3 : ys = zs := rkN_inj (fun y hy => by have := a1 y hy; omega) (fun y hy => by have := b1 y hy; omega) (by omega)
      rw [a3, b3, e3]
/-- the distance of an element: -1 where it is not reached -/
def dF (S : List ByteArray) (i : Nat) : Int := if nthS S i = hyB then -1 else ((nthS S i).size : Nat)
theorem dF_neg {i : Nat} : dF S i < 0 ↔ nthS S i = hyB := by
  unfold dF
  split
  · rename_i h; exact ⟨fun _ => h, fun _ => by omega⟩
  · rename_i h; exact ⟨fun h2 => by omega, fun h2 => absurd h2 h⟩
theorem dF_way (h : ShortP m ln zn S) {i : Nat} (hi : i < m) (hd : 0 ≤ dF S i) : ∃ ys : List Nat, (∀ y ∈ ys, y < zn.length) ∧ ((ys.length : Nat) : Int) = dF S i ∧ ys.length < m ∧ nthS S i = wdN ys ∧ ys.foldl (nxT m ln zn) 0 = i := by
  have hn : nthS S i ≠ hyB := fun e => by have := (dF_neg (S := S) (i := i)).2 e; omega
  obtain ⟨ys, a1, a2, a3, a4, _⟩ := h.some i hi hn
  refine ⟨ys, a1, ?_, a2, a3, a4⟩
  unfold dF
  rw [if_neg hn, a3, wdN_size]
theorem dF_le (h : ShortP m ln zn S) (hz4 : zn.length ≤ 4) {i : Nat} (hi : i < m) {zs : List Nat} (hz : ∀ z ∈ zs, z < zn.length) (e : zs.foldl (nxT m ln zn) 0 = i) : 0 ≤ dF S i ∧ dF S i ≤ ((zs.length : Nat) : Int) := by
  have hn : nthS S i ≠ hyB := fun e2 => h.none i hi e2 zs hz e
  obtain ⟨ys, a1, a2, a3, a4, a5⟩ := h.some i hi hn
  have h1 := rkN_len (ys := ys) (fun z hz2 => by have := hz z hz2; omega) (a5 zs hz e)
  unfold dF
  rw [if_neg hn, a3, wdN_size]
  omega
theorem dF_zero (h : ShortP m ln zn S) (hz4 : zn.length ≤ 4) (hm : 1 ≤ m) : dF S 0 = 0 := by
  have := dF_le h hz4 (i := 0) (by omega) (zs := []) (fun z hz => (by cases hz)) rfl
  have h2 : (([] : List Nat).length : Int) = 0 := rfl
  omega
theorem dF_zero_iff (h : ShortP m ln zn S) {i : Nat} (hi : i < m) (e : dF S i = 0) : i = 0 := by
  obtain ⟨ys, _, a2, _, _, a4⟩ := dF_way h hi (by omega)
  obtain rfl := List.length_eq_zero_iff.1 (show ys.length = 0 by omega)
  exact a4.symm
theorem vals_near (h : ShortP m ln zn S) (hm : 1 ≤ m) (hN : ∀ i y, i < m → y < zn.length → nxT m ln zn i y < m) {i : Nat} (hi : i < m) (hd : 0 ≤ dF S i) : 0 < (valsN m ln zn (dF S i).toNat).getD i 0 := by
  obtain ⟨ys, a1, a2, _, _, a4⟩ := dF_way h hi hd
  exact (valsN_pos hm hN _ i).2 ⟨ys, by omega, a1, a4⟩
theorem vals_far (h : ShortP m ln zn S) (hz4 : zn.length ≤ 4) (hm : 1 ≤ m) (hN : ∀ i y, i < m → y < zn.length → nxT m ln zn i y < m) {i n : Nat} (hi : i < m) (hd : (n : Int) < dF S i) : (valsN m ln zn n).getD i 0 = 0 := by
  refine Nat.eq_zero_of_not_pos fun hp => ?_
  obtain ⟨ys, a1, a2, a3⟩ := (valsN_pos hm hN n i).1 hp
  have := dF_le h hz4 hi a2 a3
  omega
/-- a least word with a letter added that is not a least word -/
theorem rel_ex (h : ShortP m ln zn S) (hz1 : 1 ≤ zn.length) (hz4 : zn.length ≤ 4) (hm : 1 ≤ m) (hN : ∀ i y, i < m → y < zn.length → nxT m ln zn i y < m) : ∃ i y, i < m ∧ nthS S i ≠ hyB ∧ y < zn.length ∧ nthS S (nxT m ln zn i y) ≠ nthS S i ++ letterN y := by
  refine Classical.byContradiction fun hc => ?_
  have key : ∀ n, ∃ i, i < m ∧ nthS S i ≠ hyB ∧ (nthS S i).size = n := by
    intro n
    induction n with
    | zero =>
      have h0 := dF_zero h hz4 hm
      have hn : nthS S 0 ≠ hyB := fun e => by have := (dF_neg (S := S) (i := 0)).2 e; omega
      refine ⟨0, by omega, hn, ?_⟩
      unfold dF at h0
      rw [if_neg hn] at h0
      omega
    | succ n ih =>
      obtain ⟨i, hi, hn, hs⟩ := ih
      have hlt := hN i 0 hi (by omega)
      have e : nthS S (nxT m ln zn i 0) = nthS S i ++ letterN 0 := Classical.byContradiction fun hne => hc ⟨i, 0, hi, hn, by omega, hne⟩
      obtain ⟨ys, a1, a2, a3, a4, a5⟩ := h.some i hi hn
      have e2 : nthS S i ++ letterN 0 = wdN (ys ++ [0]) := by rw [wdN_snoc, a3]
      refine ⟨_, hlt, ?_, ?_⟩
      · rw [e, e2]
        exact wdN_ne _ (fun y hy => by
          rcases List.mem_append.1 hy with h1 | h1
          · have := a1 y h1; omega
          · rw [List.mem_singleton.1 h1]; omega)
      · rw [e, e2, wdN_size, List.length_append, List.length_singleton]
        rw [a3, wdN_size] at hs
        omega
  obtain ⟨i, hi, hn, hs⟩ := key m
  obtain ⟨ys, a1, a2, a3, _⟩ := h.some i hi hn
  rw [a3, wdN_size] at hs
  omega
/-- the least word is less than another one of its value -/
theorem rel_less (h : ShortP m ln zn S) (hz4 : zn.length ≤ 4) (hN : ∀ i y, i < m → y < zn.length → nxT m ln zn i y < m) {i y : Nat} (hi : i < m) (hn : nthS S i ≠ hyB) (hy : y < zn.length) (hne : nthS S (nxT m ln zn i y) ≠ nthS S i ++ letterN y) :
    ∃ us zs : List Nat, ((∀ u ∈ us, u < zn.length) ∧ ∀ z ∈ zs, z < zn.length) ∧ nthS S (nxT m ln zn i y) = wdN us ∧ nthS S i ++ letterN y = wdN zs ∧ rkN us < rkN zs ∧ us.foldl (nxT m ln zn) 0 = nxT m ln zn i y ∧ zs.foldl (nxT m ln zn) 0 = nxT m ln zn i y := by
  obtain ⟨ys, a1, a2, a3, a4, a5⟩ := h.some i hi hn
  have hzs : ∀ z ∈ ys ++ [y], z < zn.length := fun z hz => by
    rcases List.mem_append.1 hz with h1 | h1
    · exact a1 z h1
    · rw [List.mem_singleton.1 h1]; exact hy
  have hv : (ys ++ [y]).foldl (nxT m ln zn) 0 = nxT m ln zn i y := by rw [List.foldl_append, a4]; rfl
  have hlt := hN i y hi hy
  have hn2 : nthS S (nxT m ln zn i y) ≠ hyB := fun e => h.none _ hlt e _ hzs hv
  obtain ⟨us, b1, b2, b3, b4, b5⟩ := h.some _ hlt hn2
  have e2 : nthS S i ++ letterN y = wdN (ys ++ [y]) := by rw [wdN_snoc, a3]
  refine ⟨us, ys ++ [y], ⟨b1, hzs⟩, b3, e2, ?_, b4, hv⟩
  refine Nat.lt_of_le_of_ne (b5 _ hzs hv) fun e => hne ?_
  have e3 : us = ys ++ [y] := rkN_inj (fun z hz => by have := b1 z hz; omega) (fun z hz => by have := hzs z hz; omega) e
  rw [e2, b3, e3]
/-- where each image has an inverse among the images, every reached element is a unit -/
theorem way_unit (ht : TabOk m ln) (hr : ∀ x ∈ zn, x < m) (hs : ∀ x ∈ zn, ∃ z, z < m ∧ tm m ln x z = 0 ∧ tm m ln z x = 0) (hm : 1 ≤ m) : ∀ ys : List Nat, (∀ y ∈ ys, y < zn.length) → ys.foldl (nxT m ln zn) 0 < m ∧ ∃ q, q < m ∧ tm m ln (ys.foldl (nxT m ln zn) 0) q = 0 ∧ tm m ln q (ys.foldl (nxT m ln zn) 0) = 0 := fun ys => by
  refine snoc_ind (P := fun ys => (∀ y ∈ ys, y < zn.length) → ys.foldl (nxT m ln zn) 0 < m ∧ ∃ q, q < m ∧ tm m ln (ys.foldl (nxT m ln zn) 0) q = 0 ∧ tm m ln q (ys.foldl (nxT m ln zn) 0) = 0) (fun _ => ⟨by show 0 < m; omega, 0, by omega, ht.left 0 (by omega), ht.left 0 (by omega)⟩) (fun ys y ih hy => ?_) _ ys rfl
  obtain ⟨h1, q, h2, h3, h4⟩ := ih fun z hz => hy z (by simp [hz])
  rw [List.foldl_append]
  show nxT m ln zn (ys.foldl (nxT m ln zn) 0) y < m ∧ ∃ q, q < m ∧ tm m ln (nxT m ln zn (ys.foldl (nxT m ln zn) 0) y) q = 0 ∧ tm m ln q (nxT m ln zn (ys.foldl (nxT m ln zn) 0) y) = 0
  generalize ys.foldl (nxT m ln zn) 0 = i at *
  have hyl := hy y (by simp)
  have hx : zn.getD y 0 ∈ zn := by
    rw [List.getD_eq_getElem?_getD, List.getElem?_eq_getElem hyl]
    exact List.getElem_mem hyl
  unfold nxT
  have hxm := hr _ hx
  obtain ⟨z, z1, z2, z3⟩ := hs _ hx
  generalize zn.getD y 0 = x at *
  have hix := ht.toTb.tm_lt h1 hxm
  have hzq := ht.toTb.tm_lt z1 h2
  refine ⟨hix, tm m ln z q, hzq, ?_, ?_⟩
  · rw [ht.assoc i x _ h1 hxm hzq, ← ht.assoc x z q hxm z1 h2, z2, ht.left q h2, h3]
  · rw [ht.assoc z q _ z1 h2 hix, ← ht.assoc q i x h2 h1 hxm, h4, ht.left x hxm, z3]
end
end Go.Proofs.YtmgdglghjlggnaaGreat
