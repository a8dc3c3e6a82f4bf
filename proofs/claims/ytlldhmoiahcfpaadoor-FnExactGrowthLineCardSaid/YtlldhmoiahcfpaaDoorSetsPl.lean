/-
  How many different sets there are over some things: plain data (for CodeLine's TailsOf).
-/
import Derived.Test.YtlldhmoiahcfpaaDoorBase
namespace Go.Proofs.YtlldhmoiahcfpaaDoor
set_option linter.unusedVariables false
section
variable {α : Type} [DecidableEq α]
/-- the number of a set: a bit for each thing -/
def codeN (x : List α) : List α → Nat
  | [] => 0
  | u :: us => (if u ∈ x then 1 else 0) + 2 * codeN x us
theorem codeN_lt (x : List α) : ∀ U : List α, codeN x U < 2 ^ U.length
  | [] => by show 0 < 1; omega
  | u :: us => by
    have ih := codeN_lt x us
    have hp : 2 ^ (u :: us).length = 2 * 2 ^ us.length := by rw [List.length_cons, Nat.pow_succ]; omega
    show (if u ∈ x then 1 else 0) + 2 * codeN x us < _
    rw [hp]
    split <;> omega
theorem codeN_inj {x y : List α} : ∀ {U : List α}, codeN x U = codeN y U → ∀ u ∈ U, (u ∈ x ↔ u ∈ y)
  | [], _, u, hu => by cases hu
  | v :: us, h, u, hu => by
    have h' : (if v ∈ x then 1 else 0) + 2 * codeN x us = (if v ∈ y then 1 else 0) + 2 * codeN y us := h
    have hh : (v ∈ x ↔ v ∈ y) ∧ codeN x us = codeN y us := by
      by_cases a : v ∈ x <;> by_cases b : v ∈ y <;> simp only [a, b, if_true, if_false] at h' ⊢ <;> simp <;> omega
    rcases List.mem_cons.1 hu with rfl | hu
    · exact hh.1
    · exact codeN_inj hh.2 u hu
theorem one_le_filter {n : Nat} : ∀ {L : List Nat}, L.Nodup → L.length ≤ (L.filter (fun x => decide (x ≠ n))).length + 1
  | [], _ => by simp
  | a :: L, h => by
    rw [List.nodup_cons] at h
    rw [List.filter_cons]
    by_cases e : a = n
    · have : L.filter (fun x => decide (x ≠ n)) = L := by
        rw [List.filter_eq_self]
        intro x hx
        have : x ≠ n := fun e2 => h.1 (by rw [e, ← e2]; exact hx)
        simpa using this
      rw [if_neg (by simpa using e), this, List.length_cons]; exact Nat.le_refl _
    · have ih := one_le_filter (n := n) h.2
      rw [if_pos (by simpa using e), List.length_cons, List.length_cons]
      omega
/-- so many different numbers below n are no more than n -/
theorem nodup_bound : ∀ (n : Nat) (L : List Nat), L.Nodup → (∀ x ∈ L, x < n) → L.length ≤ n
  | 0, L, _, h => by
    cases L with
    | nil => exact Nat.le_refl _
    | cons a l => exact absurd (h a List.mem_cons_self) (Nat.not_lt_zero _)
  | n + 1, L, hn, h => by
    have h1 := one_le_filter (n := n) hn
    have h2 := nodup_bound n (L.filter (fun x => decide (x ≠ n))) (hn.filter _) (fun x hx => by
      rw [List.mem_filter] at hx
      have := h x hx.1
      have h3 : x ≠ n := by simpa using hx.2
      omega)
    omega
theorem nodup_map {β : Type} {f : β → Nat} : ∀ {L : List β}, L.Nodup → (∀ x ∈ L, ∀ y ∈ L, f x = f y → x = y) → (L.map f).Nodup
  | [], _, _ => List.nodup_nil
  | a :: L, h, hi => by
    rw [List.nodup_cons] at h
    rw [List.map_cons, List.nodup_cons]
    refine ⟨fun hm => ?_, nodup_map h.2 (fun x hx y hy => hi x (List.mem_cons_of_mem _ hx) y (List.mem_cons_of_mem _ hy))⟩
    obtain ⟨b, hb, he⟩ := List.mem_map.1 hm
    have := hi a List.mem_cons_self b (List.mem_cons_of_mem _ hb) he.symm
    exact h.1 (by rw [this]; exact hb)
/-- so many different sets over U are no more than there are subsets -/
theorem sets_bound {U : List α} {L : List (List α)} (hn : L.Nodup) (hU : ∀ x ∈ L, ∀ u ∈ x, u ∈ U) (hx : ∀ x ∈ L, ∀ y ∈ L, (∀ u, u ∈ x ↔ u ∈ y) → x = y) : L.length ≤ 2 ^ U.length := by
  have h1 : (L.map fun x => codeN x U).Nodup := nodup_map hn (fun x hx1 y hy1 he => hx x hx1 y hy1 (fun u => by
    by_cases hu : u ∈ U
    · exact codeN_inj he u hu
    · exact ⟨fun h => absurd (hU x hx1 u h) hu, fun h => absurd (hU y hy1 u h) hu⟩))
  have h2 := nodup_bound (2 ^ U.length) _ h1 (fun z hz => by
    obtain ⟨x, _, rfl⟩ := List.mem_map.1 hz
    exact codeN_lt x U)
  rwa [List.length_map] at h2
/-- two strictly sorted lists with the same members are one -/
theorem sorted_ext {lt : α → α → Prop} (hirr : ∀ a, ¬ lt a a) (htr : ∀ a b c, lt a b → lt b c → lt a c) : ∀ {x y : List α}, x.Pairwise lt → y.Pairwise lt → (∀ u, u ∈ x ↔ u ∈ y) → x = y
  | [], y, _, _, h => by
    cases y with
    | nil => rfl
    | cons b y => exact absurd ((h b).2 List.mem_cons_self) (by simp)
  | a :: x, [], _, _, h => absurd ((h a).1 List.mem_cons_self) (by simp)
  | a :: x, b :: y, hx, hy, h => by
    rw [List.pairwise_cons] at hx hy
    have hab : a = b := by
      rcases List.mem_cons.1 ((h a).1 List.mem_cons_self) with e | e
      · exact e
      · rcases List.mem_cons.1 ((h b).2 List.mem_cons_self) with e2 | e2
        · exact e2.symm
        · exact absurd (htr _ _ _ (hx.1 b e2) (hy.1 a e)) (hirr a)
    subst hab
    have hxy : x = y := sorted_ext hirr htr hx.2 hy.2 (fun u => by
      have hu := h u
      rw [List.mem_cons, List.mem_cons] at hu
      by_cases e : u = a
      · subst e
        exact ⟨fun m => absurd (hx.1 u m) (hirr u), fun m => absurd (hy.1 u m) (hirr u)⟩
      · constructor
        · intro m; exact (hu.1 (.inr m)).resolve_left e
        · intro m; exact (hu.2 (.inr m)).resolve_left e)
    rw [hxy]
end
theorem sorted_nodup {α : Type} {lt : α → α → Prop} (hirr : ∀ a, ¬ lt a a) : ∀ {x : List α}, x.Pairwise lt → x.Nodup
  | [], _ => List.nodup_nil
  | a :: x, h => by
    rw [List.pairwise_cons] at h
    rw [List.nodup_cons]
    exact ⟨fun m => hirr a (h.1 a m), sorted_nodup hirr h.2⟩
end Go.Proofs.YtlldhmoiahcfpaaDoor
