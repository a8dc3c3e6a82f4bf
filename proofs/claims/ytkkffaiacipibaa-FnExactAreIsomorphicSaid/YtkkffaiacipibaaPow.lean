/-
  Powers of an element, the first one that comes back, groups: plain data.
-/
import Derived.Test.YtkkffaiacipibaaSpecTab
namespace Go.Proofs.Ytkkffaiacipibaa
open Go.RowKit
set_option linter.unusedVariables false
/-- more pigeons than holes -/
theorem php : ∀ (m : Nat) (f : Nat → Nat), (∀ i, i ≤ m → f i < m) → ∃ i j, i < j ∧ j ≤ m ∧ f i = f j
  | 0, f, h => absurd (h 0 (Nat.le_refl _)) (Nat.not_lt_zero _)
  | m + 1, f, h => by
    by_cases he : ∃ i, i ≤ m ∧ f i = f (m + 1)
    · obtain ⟨i, hi, e⟩ := he
      exact ⟨i, m + 1, by omega, Nat.le_refl _, e⟩
    · have hne : ∀ i, i ≤ m → f i ≠ f (m + 1) := fun i hi e => he ⟨i, hi, e⟩
      obtain ⟨i, j, hij, hj, e⟩ := php m (fun i => if f i = m then f (m + 1) else f i) (fun i hi => by
        have h1 := h i (by omega)
        have h2 := h (m + 1) (Nat.le_refl _)
        have h3 := hne i hi
        by_cases e : f i = m
        · simp only [e, if_true]; omega
        · simp only [e, if_false]; omega)
      have h1 := hne i (by omega)
      have h2 := hne j hj
      refine ⟨i, j, hij, by omega, ?_⟩
      by_cases e1 : f i = m <;> by_cases e2 : f j = m <;> simp [e1, e2] at e <;> omega
/-- the powers of an element -/
def pw (m : Nat) (ln : List Nat) (i : Nat) : Nat → Nat
  | 0 => 0
  | n + 1 => tm m ln (pw m ln i n) i
theorem pw_zero (m : Nat) (ln : List Nat) (i : Nat) : pw m ln i 0 = 0 := rfl
theorem pw_succ (m : Nat) (ln : List Nat) (i n : Nat) : pw m ln i (n + 1) = tm m ln (pw m ln i n) i := rfl
theorem Tb.pw_lt {m : Nat} {ln : List Nat} (h : Tb m ln) {i : Nat} (hi : i < m) : ∀ n, pw m ln i n < m
  | 0 => h.lo
  | n + 1 => h.tm_lt (h.pw_lt hi n) hi
theorem TabOk.pw_add {m : Nat} {ln : List Nat} (h : TabOk m ln) {i : Nat} (hi : i < m) (a : Nat) : ∀ b, pw m ln i (a + b) = tm m ln (pw m ln i a) (pw m ln i b)
  | 0 => by rw [Nat.add_zero, pw_zero, h.right _ (h.pw_lt hi a)]
  | b + 1 => by
    rw [← Nat.add_assoc, pw_succ, h.pw_add hi a b, pw_succ, h.assoc _ _ _ (h.pw_lt hi a) (h.pw_lt hi b) hi]
/-- the power n was there before -/
def repB (m : Nat) (ln : List Nat) (i n : Nat) : Bool := (List.range n).any fun k => decide (pw m ln i k = pw m ln i n)
theorem repB_iff {m : Nat} {ln : List Nat} {i n : Nat} : repB m ln i n = true ↔ ∃ k, k < n ∧ pw m ln i k = pw m ln i n := by simp [repB]
theorem Tb.rep {m : Nat} {ln : List Nat} (h : Tb m ln) {i : Nat} (hi : i < m) : ∃ n, n ≤ m ∧ repB m ln i n = true := by
  obtain ⟨k, n, hk, hn, e⟩ := php m (pw m ln i) (fun n _ => h.pw_lt hi n)
  exact ⟨n, hn, repB_iff.2 ⟨k, hk, e⟩⟩
/-- the first number that has a property, of those up to m -/
def firstN (p : Nat → Bool) (m : Nat) : Nat := ((List.range (m + 1)).find? p).getD 0
theorem firstN_spec {p : Nat → Bool} {m n : Nat} (hn : n ≤ m) (hp : p n = true) : p (firstN p m) = true ∧ firstN p m ≤ n ∧ ∀ z, z < firstN p m → p z = false := by
  unfold firstN
  cases h : (List.range (m + 1)).find? p
  · rw [List.find?_eq_none] at h
    have := h n (by simp; omega)
    simp [hp] at this
  · rename_i k
    rw [List.find?_eq_some_iff_getElem] at h
    obtain ⟨h1, j, hj, h2, h3⟩ := h
    simp only [List.getElem_range] at h2 h3
    subst h2
    simp only [Option.getD_some]
    refine ⟨h1, ?_, fun z hz => by simpa using h3 z hz⟩
    rcases Nat.lt_or_ge n j with hlt | hge
    · have := h3 n hlt
      simp [hp] at this
    · exact hge
def repN (m : Nat) (ln : List Nat) (i : Nat) : Nat := firstN (repB m ln i) m
def repK (m : Nat) (ln : List Nat) (i : Nat) : Nat := firstN (fun k => decide (pw m ln i k = pw m ln i (repN m ln i))) m
theorem Tb.repN_le {m : Nat} {ln : List Nat} (h : Tb m ln) {i : Nat} (hi : i < m) : repN m ln i ≤ m := by
  obtain ⟨n, hn, hp⟩ := h.rep hi
  exact Nat.le_trans (firstN_spec hn hp).2.1 hn
theorem Tb.repN_rep {m : Nat} {ln : List Nat} (h : Tb m ln) {i : Nat} (hi : i < m) : repB m ln i (repN m ln i) = true := by
  obtain ⟨n, hn, hp⟩ := h.rep hi
  exact (firstN_spec hn hp).1
theorem Tb.repN_min {m : Nat} {ln : List Nat} (h : Tb m ln) {i : Nat} (hi : i < m) {z : Nat} (hz : z < repN m ln i) : repB m ln i z = false := by
  obtain ⟨n, hn, hp⟩ := h.rep hi
  exact (firstN_spec hn hp).2.2 z hz
theorem Tb.repK_spec {m : Nat} {ln : List Nat} (h : Tb m ln) {i : Nat} (hi : i < m) : repK m ln i < repN m ln i ∧ pw m ln i (repK m ln i) = pw m ln i (repN m ln i) ∧ ∀ z, z < repK m ln i → pw m ln i z ≠ pw m ln i (repN m ln i) := by
  obtain ⟨k, hk, e⟩ := repB_iff.1 (h.repN_rep hi)
  have h1 := firstN_spec (p := fun k => decide (pw m ln i k = pw m ln i (repN m ln i))) (m := m) (n := k) (by have := h.repN_le hi; omega) (by simpa using e)
  refine ⟨?_, by simpa [repK] using h1.1, fun z hz => by simpa using h1.2.2 z hz⟩
  have : repK m ln i ≤ k := h1.2.1
  omega
/-- a group -/
structure Grp (m : Nat) (ln : List Nat) : Prop extends TabOk m ln where
  unit : ∀ i, i < m → isUnit m ln i = true
theorem Grp.inv {m : Nat} {ln : List Nat} (h : Grp m ln) {i : Nat} (hi : i < m) : ∃ k, k < m ∧ tm m ln i k = 0 ∧ tm m ln k i = 0 ∧ invF m ln i = (k : Nat) := by
  have h1 := h.unit i hi
  rw [← invF_unit] at h1
  rcases invF_lt (m := m) (ln := ln) (i := i) with h2 | ⟨k, h2, h3, h4⟩
  · rw [h2] at h1; simp at h1
  · simp [invB] at h4
    exact ⟨k, h3, h4.1, h4.2, h2⟩
theorem Grp.right_inv {m : Nat} {ln : List Nat} (h : Grp m ln) {i k : Nat} (hi : i < m) (hk : k < m) (e : tm m ln i k = 0) : tm m ln k i = 0 ∧ invF m ln i = (k : Nat) := by
  obtain ⟨k', hk', e1, e2, e3⟩ := h.inv hi
  have : k = k' := by
    have h1 := h.assoc k' i k hk' hi hk
    rw [e2, e, h.left k hk, h.right k' hk'] at h1
    exact h1
  subst this
  exact ⟨e2, e3⟩
theorem Grp.cancel {m : Nat} {ln : List Nat} (h : Grp m ln) {x a b : Nat} (hx : x < m) (ha : a < m) (hb : b < m) (e : tm m ln x a = tm m ln x b) : a = b := by
  obtain ⟨k, hk, _, e2, _⟩ := h.inv hx
  have h1 := h.assoc k x a hk hx ha
  have h2 := h.assoc k x b hk hx hb
  rw [e2, h.left a ha] at h1
  rw [e2, h.left b hb] at h2
  rw [h1, h2, e]
theorem Grp.repK_zero {m : Nat} {ln : List Nat} (h : Grp m ln) {i : Nat} (hi : i < m) : repK m ln i = 0 := by
  obtain ⟨h1, h2, h3⟩ := h.repK_spec hi
  have e : pw m ln i (repN m ln i) = tm m ln (pw m ln i (repK m ln i)) (pw m ln i (repN m ln i - repK m ln i)) := by
    rw [← h.pw_add hi]; congr 1; omega
  have h4 : pw m ln i (repN m ln i - repK m ln i) = 0 := by
    refine h.cancel (h.pw_lt hi (repK m ln i)) (h.pw_lt hi _) h.lo ?_
    rw [← e, ← h2, h.right _ (h.pw_lt hi _)]
  rcases Nat.eq_zero_or_pos (repK m ln i) with h5 | h5
  · exact h5
  · have h6 := h.repN_min hi (z := repN m ln i - repK m ln i) (by omega)
    have h7 : repB m ln i (repN m ln i - repK m ln i) = true := repB_iff.2 ⟨0, by omega, by rw [h4]; rfl⟩
    rw [h7] at h6
    cases h6
/-- the order of an element of a group: the first power that is the identity -/
theorem Grp.order {m : Nat} {ln : List Nat} (h : Grp m ln) {i : Nat} (hi : i < m) : 1 ≤ repN m ln i ∧ pw m ln i (repN m ln i) = 0 ∧ ∀ n, 1 ≤ n → n < repN m ln i → pw m ln i n ≠ 0 := by
  have h0 := h.repK_zero hi
  obtain ⟨h1, h2, _⟩ := h.repK_spec hi
  rw [h0] at h1 h2
  refine ⟨by omega, h2.symm, fun n hn hlt e => ?_⟩
  have h6 := h.repN_min hi (z := n) hlt
  have h7 : repB m ln i n = true := repB_iff.2 ⟨0, by omega, by rw [e]; rfl⟩
  rw [h7] at h6
  cases h6
theorem groupB_tab {n : Int} {l : List Int} (h : groupB n l = true) : tabB n l = true := by
  simp only [groupB, Bool.and_eq_true] at h
  exact h.1
theorem groupB_out {n : Int} {l : List Int} (h : groupB n l = true) : ∃ m ln, n = (m : Nat) ∧ l = ln.map Int.ofNat ∧ Grp m ln := by
  have ht := groupB_tab h
  obtain ⟨m, ln, rfl, rfl, hT⟩ := tabOk_out ht
  refine ⟨m, ln, rfl, rfl, hT, ?_⟩
  simp only [groupB, Bool.and_eq_true, decide_eq_true_eq] at h
  have h2 := h.2
  unfold unitsOfF at h2
  rw [thoseL_yes ht, map_toNat] at h2
  simp only [Int.toNat_natCast, listTo, List.length_map] at h2
  have h3 : ((List.range m).filter (isUnit m ln)).length = (List.range m).length := by simp; omega
  have h4 := List.length_filter_eq_length_iff.1 h3
  exact fun i hi => h4 i (List.mem_range.2 hi)
end Go.Proofs.Ytkkffaiacipibaa
