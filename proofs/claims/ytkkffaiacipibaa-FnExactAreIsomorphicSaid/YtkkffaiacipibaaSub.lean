/-
  The least subgroup as plain data.
-/
import Derived.Test.YtkkffaiacipibaaPow
namespace Go.Proofs.Ytkkffaiacipibaa
open Go.RowKit
set_option linter.unusedVariables false
def invN (m : Nat) (ln : List Nat) (i : Nat) : Nat := (invF m ln i).toNat
theorem Grp.invN_spec {m : Nat} {ln : List Nat} (h : Grp m ln) {i : Nat} (hi : i < m) : invN m ln i < m ∧ tm m ln i (invN m ln i) = 0 ∧ tm m ln (invN m ln i) i = 0 ∧ invF m ln i = ((invN m ln i : Nat) : Int) := by
  obtain ⟨k, hk, e1, e2, e3⟩ := h.inv hi
  have : invN m ln i = k := by unfold invN; rw [e3]; simp
  rw [this]
  exact ⟨hk, e1, e2, e3⟩
/-- the product of x, i and the inverse of x -/
def cj (m : Nat) (ln : List Nat) (x i : Nat) : Nat := tm m ln (tm m ln x i) (invN m ln x)
theorem Grp.cj_lt {m : Nat} {ln : List Nat} (h : Grp m ln) {x i : Nat} (hx : x < m) (hi : i < m) : cj m ln x i < m := h.tm_lt (h.tm_lt hx hi) (h.invN_spec hx).1
def subOne (m : Nat) (ln : List Nat) (p : Nat) (q : List Nat) (x : Nat) : List Nat := if q.contains (tm m ln (q.getD p 0) x) then q else q ++ [tm m ln (q.getD p 0) x]
def subTo (m : Nat) (ln z q : List Nat) (p j : Nat) : List Nat := (z.take j).foldl (subOne m ln p) q
def subRun (m : Nat) (ln z : List Nat) : Nat → Nat → List Nat → List Nat
  | 0, _, q => q
  | k + 1, p, q => if p < q.length then subRun m ln z k (p + 1) (subTo m ln z q p z.length) else q
/-- the elements of the least subgroup, in the order in which they are found -/
def subQ (m : Nat) (ln z : List Nat) : List Nat := subRun m ln z (m + 1) 0 [0]
theorem subTo_zero (m : Nat) (ln z q : List Nat) (p : Nat) : subTo m ln z q p 0 = q := by simp [subTo]
theorem subTo_succ {m : Nat} {ln z q : List Nat} {p j : Nat} (hj : j < z.length) : subTo m ln z q p (j + 1) = subOne m ln p (subTo m ln z q p j) z[j] := by
  unfold subTo
  rw [List.take_succ_eq_append_getElem hj, List.foldl_append]
  rfl
/-- what is known of the list -/
structure SubInv (m : Nat) (q : List Nat) : Prop where
  nd : q.Nodup
  lt : ∀ y ∈ q, y < m
theorem SubInv.len {m : Nat} {q : List Nat} (h : SubInv m q) : q.length ≤ m := by
  apply Nat.le_of_not_lt
  intro hlt
  obtain ⟨i, j, hij, hj, e⟩ := php m (fun i => q.getD i 0) (fun i hi => by
    simp only [List.getD_eq_getElem?_getD, List.getElem?_eq_getElem (show i < q.length by omega), Option.getD_some]
    exact h.lt _ (List.getElem_mem _))
  simp only [List.getD_eq_getElem?_getD, List.getElem?_eq_getElem (show i < q.length by omega), List.getElem?_eq_getElem (show j < q.length by omega), Option.getD_some] at e
  exact (List.pairwise_iff_getElem.1 h.nd) i j (by omega) (by omega) hij e
theorem SubInv.start {m : Nat} (h : 1 ≤ m) : SubInv m [0] := ⟨by simp, by simp; omega⟩
theorem getD_lt {q : List Nat} {p : Nat} (h : p < q.length) : q.getD p 0 = q[p] := by simp [List.getD_eq_getElem?_getD, h]
theorem SubInv.at {m : Nat} {q : List Nat} (h : SubInv m q) {p : Nat} (hp : p < q.length) : q.getD p 0 < m := by rw [getD_lt hp]; exact h.lt _ (List.getElem_mem _)
theorem subOne_inv {m : Nat} {ln q : List Nat} {p x : Nat} (hT : Tb m ln) (h : SubInv m q) (hp : p < q.length) (hx : x < m) : SubInv m (subOne m ln p q x) := by
  unfold subOne
  by_cases hc : q.contains (tm m ln (q.getD p 0) x) = true
  · rw [if_pos hc]; exact h
  · rw [if_neg hc]
    refine ⟨?_, fun y hy => ?_⟩
    · rw [List.nodup_append]
      refine ⟨h.nd, by simp, fun a ha b hb e => ?_⟩
      rw [List.mem_singleton.1 hb] at e
      subst e
      exact hc (by simpa using ha)
    · rcases List.mem_append.1 hy with hy | hy
      · exact h.lt y hy
      · rw [List.mem_singleton.1 hy]; exact hT.tm_lt (h.at hp) hx
theorem subOne_pre (m : Nat) (ln q : List Nat) (p x : Nat) : q <+: subOne m ln p q x := by
  unfold subOne
  split
  · exact List.prefix_refl _
  · exact List.prefix_append _ _
theorem pre_get {q q' : List Nat} (h : q <+: q') {p : Nat} (hp : p < q.length) : q'.getD p 0 = q.getD p 0 := by
  obtain ⟨t, rfl⟩ := h
  rw [List.getD_eq_getElem?_getD, List.getD_eq_getElem?_getD, List.getElem?_append_left hp]
theorem subTo_all {m : Nat} {ln z q : List Nat} {p : Nat} (hT : Tb m ln) (hz : ∀ x ∈ z, x < m) (h : SubInv m q) (hp : p < q.length) : ∀ j, j ≤ z.length → SubInv m (subTo m ln z q p j) ∧ q <+: subTo m ln z q p j
  | 0, _ => by rw [subTo_zero]; exact ⟨h, List.prefix_refl _⟩
  | j + 1, hj => by
    obtain ⟨h1, h2⟩ := subTo_all hT hz h hp j (by omega)
    rw [subTo_succ (by omega)]
    exact ⟨subOne_inv hT h1 (Nat.lt_of_lt_of_le hp h2.length_le) (hz _ (List.getElem_mem _)), h2.trans (subOne_pre _ _ _ _ _)⟩
/-- the state of the outer loop: what comes out is what comes out of the beginning -/
structure SubAt (m : Nat) (ln z : List Nat) (p : Nat) (q : List Nat) : Prop extends SubInv m q where
  pos : 0 < q.length
  le : p ≤ q.length
  eq : subRun m ln z (m + 1 - p) p q = subQ m ln z
theorem SubAt.begin {m : Nat} {ln : List Nat} (z : List Nat) (h : Tb m ln) : SubAt m ln z 0 [0] := ⟨SubInv.start h.lo, by simp, by simp, rfl⟩
theorem SubAt.next {m : Nat} {ln z : List Nat} {p : Nat} {q : List Nat} (hT : Tb m ln) (hz : ∀ x ∈ z, x < m) (h : SubAt m ln z p q) (hp : p < q.length) : SubAt m ln z (p + 1) (subTo m ln z q p z.length) := by
  obtain ⟨h1, h2⟩ := subTo_all hT hz h.toSubInv hp _ (Nat.le_refl _)
  have h3 := h2.length_le
  have h4 := h.toSubInv.len
  refine ⟨h1, by omega, by omega, ?_⟩
  have h5 := h.eq
  rw [show m + 1 - p = (m + 1 - (p + 1)) + 1 by omega] at h5
  unfold subRun at h5
  rw [if_pos hp] at h5
  exact h5
theorem SubAt.stop {m : Nat} {ln z : List Nat} {p : Nat} {q : List Nat} (h : SubAt m ln z p q) (hp : ¬ p < q.length) : q = subQ m ln z := by
  have h4 := h.toSubInv.len
  have h6 := h.le
  have h5 := h.eq
  rw [show m + 1 - p = (m - p) + 1 by omega] at h5
  unfold subRun at h5
  rw [if_neg hp] at h5
  exact h5
inductive Reach (m : Nat) (ln z : List Nat) : Nat → Prop
  | zero : Reach m ln z 0
  | step {y x : Nat} : Reach m ln z y → x ∈ z → Reach m ln z (tm m ln y x)
theorem subOne_mem {m : Nat} {ln q : List Nat} {p x y : Nat} : y ∈ subOne m ln p q x ↔ y ∈ q ∨ y = tm m ln (q.getD p 0) x := by
  unfold subOne
  by_cases hc : q.contains (tm m ln (q.getD p 0) x) = true
  · rw [if_pos hc]
    have hc' : tm m ln (q.getD p 0) x ∈ q := by simpa using hc
    exact ⟨.inl, fun h => h.elim id (fun e => e ▸ hc')⟩
  · rw [if_neg hc]; simp
theorem subTo_reach {m : Nat} {ln z q : List Nat} {p : Nat} (h : ∀ y ∈ q, Reach m ln z y) (hp : p < q.length) : ∀ j, j ≤ z.length → q <+: subTo m ln z q p j ∧ ∀ y ∈ subTo m ln z q p j, Reach m ln z y
  | 0, _ => by rw [subTo_zero]; exact ⟨List.prefix_refl _, h⟩
  | j + 1, hj => by
    obtain ⟨h1, h2⟩ := subTo_reach h hp j (by omega)
    rw [subTo_succ (by omega)]
    refine ⟨h1.trans (subOne_pre _ _ _ _ _), fun y hy => ?_⟩
    rcases subOne_mem.1 hy with hy | rfl
    · exact h2 y hy
    · have hl := Nat.lt_of_lt_of_le hp h1.length_le
      rw [getD_lt hl]
      exact .step (h2 _ (List.getElem_mem hl)) (List.getElem_mem _)
theorem subTo_has {m : Nat} {ln z q : List Nat} {p : Nat} (hp : p < q.length) : ∀ j, j ≤ z.length → q <+: subTo m ln z q p j ∧ ∀ i (hi : i < j) (hiz : i < z.length), tm m ln (q.getD p 0) z[i] ∈ subTo m ln z q p j
  | 0, _ => by rw [subTo_zero]; exact ⟨List.prefix_refl _, fun i hi => absurd hi (Nat.not_lt_zero _)⟩
  | j + 1, hj => by
    obtain ⟨h1, h2⟩ := subTo_has (ln := ln) (m := m) (z := z) hp j (by omega)
    rw [subTo_succ (by omega)]
    refine ⟨h1.trans (subOne_pre _ _ _ _ _), fun i hi hiz => ?_⟩
    by_cases e : i = j
    · subst e
      exact subOne_mem.2 (.inr (by rw [pre_get h1 hp]))
    · exact subOne_mem.2 (.inl (h2 i (by omega) hiz))
/-- what comes out of the run is closed -/
theorem subRun_closed {m : Nat} {ln z : List Nat} (hT : Tb m ln) (hz : ∀ x ∈ z, x < m) : ∀ (k p : Nat) (q : List Nat), SubInv m q → m < k + p → (∀ y ∈ q, Reach m ln z y) → (∀ i, i < p → i < q.length → ∀ x ∈ z, tm m ln (q.getD i 0) x ∈ q) →
    q <+: subRun m ln z k p q ∧ (∀ y ∈ subRun m ln z k p q, Reach m ln z y) ∧ ∀ y ∈ subRun m ln z k p q, ∀ x ∈ z, tm m ln y x ∈ subRun m ln z k p q
  | 0, p, q, hI, hk, hr, hc => by
    unfold subRun
    refine ⟨List.prefix_refl _, hr, fun y hy x hx => ?_⟩
    obtain ⟨i, hi, rfl⟩ := List.getElem_of_mem hy
    have := hI.len
    have h1 := hc i (by omega) hi x hx
    rwa [getD_lt hi] at h1
  | k + 1, p, q, hI, hk, hr, hc => by
    unfold subRun
    by_cases hp : p < q.length
    · rw [if_pos hp]
      obtain ⟨h1, h2⟩ := subTo_all hT hz hI hp _ (Nat.le_refl _)
      obtain ⟨_, h3⟩ := subTo_reach hr hp _ (Nat.le_refl z.length)
      obtain ⟨_, h4⟩ := subTo_has (m := m) (ln := ln) (z := z) hp _ (Nat.le_refl z.length)
      obtain ⟨a1, a2, a3⟩ := subRun_closed hT hz k (p + 1) (subTo m ln z q p z.length) h1 (by omega) h3 (fun i hi hil x hx => by
        by_cases e : i = p
        · subst e
          obtain ⟨j, hj, rfl⟩ := List.getElem_of_mem hx
          rw [pre_get h2 hp]
          exact h4 j hj hj
        · have hi' : i < q.length := by omega
          rw [pre_get h2 hi']
          exact h2.subset (hc i (by omega) hi' x hx))
      exact ⟨h2.trans a1, a2, a3⟩
    · rw [if_neg hp]
      refine ⟨List.prefix_refl _, hr, fun y hy x hx => ?_⟩
      obtain ⟨i, hi, rfl⟩ := List.getElem_of_mem hy
      have h1 := hc i (by omega) hi x hx
      rwa [getD_lt hi] at h1
theorem subQ_mem {m : Nat} {ln z : List Nat} (hT : Tb m ln) (hz : ∀ x ∈ z, x < m) (y : Nat) : y ∈ subQ m ln z ↔ Reach m ln z y := by
  obtain ⟨h1, h2, h3⟩ := subRun_closed hT hz (m + 1) 0 [0] (SubInv.start hT.lo) (by omega) (fun y hy => by rw [List.mem_singleton.1 hy]; exact .zero) (fun i hi => absurd hi (Nat.not_lt_zero _))
  refine ⟨h2 y, fun h => ?_⟩
  induction h with
  | zero => exact h1.subset (by simp)
  | step _ hx ih => exact h3 _ ih _ hx
theorem Reach.mono {m : Nat} {ln z z' : List Nat} (h : ∀ x ∈ z, x ∈ z') {y : Nat} (hr : Reach m ln z y) : Reach m ln z' y := by
  induction hr with
  | zero => exact .zero
  | step _ hx ih => exact .step ih (h _ hx)
theorem Reach.lt {m : Nat} {ln z : List Nat} (hT : Tb m ln) (hz : ∀ x ∈ z, x < m) {y : Nat} (h : Reach m ln z y) : y < m := by
  induction h with
  | zero => exact hT.lo
  | step _ hx ih => exact hT.tm_lt ih (hz _ hx)
theorem Reach.mul {m : Nat} {ln z : List Nat} (hT : TabOk m ln) (hz : ∀ x ∈ z, x < m) {a b : Nat} (ha : Reach m ln z a) (hb : Reach m ln z b) : Reach m ln z (tm m ln a b) := by
  induction hb with
  | zero => rw [hT.right _ (ha.lt hT.toTb hz)]; exact ha
  | step hb hx ih =>
    rw [← hT.assoc _ _ _ (ha.lt hT.toTb hz) (hb.lt hT.toTb hz) (hz _ hx)]
    exact .step ih hx
theorem Reach.pow {m : Nat} {ln z : List Nat} (hT : TabOk m ln) (hz : ∀ x ∈ z, x < m) {a : Nat} (ha : Reach m ln z a) : ∀ n, Reach m ln z (pw m ln a n)
  | 0 => .zero
  | n + 1 => (Reach.pow hT hz ha n).mul hT hz ha
theorem Reach.inv {m : Nat} {ln z : List Nat} (hG : Grp m ln) (hz : ∀ x ∈ z, x < m) {a : Nat} (ha : Reach m ln z a) : Reach m ln z (invN m ln a) := by
  have hl := ha.lt hG.toTb hz
  obtain ⟨h1, h2, _⟩ := hG.order hl
  have e : tm m ln (pw m ln a (repN m ln a - 1)) a = 0 := by
    rw [← h2, show repN m ln a = (repN m ln a - 1) + 1 by omega, pw_succ]; rfl
  have hp := hG.toTb.pw_lt hl (repN m ln a - 1)
  obtain ⟨i1, i2, i3, _⟩ := hG.invN_spec hl
  have : invN m ln a = pw m ln a (repN m ln a - 1) := by
    have h3 := hG.assoc _ _ _ hp hl i1
    rw [e, i2, hG.left _ i1, hG.right _ hp] at h3
    exact h3
  rw [this]
  exact ha.pow hG.toTabOk hz _
end Go.Proofs.Ytkkffaiacipibaa
