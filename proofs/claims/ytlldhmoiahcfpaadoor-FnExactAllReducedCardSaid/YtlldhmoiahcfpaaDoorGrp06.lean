/-
  How many different sets there are over some things: plain data (for CodeLine's TailsOf).
-/
import Derived.Test.YtlldhmoiahcfpaaDoorGrp04
import Derived.Test.YtlldhmoiahcfpaaDoorGrp05
import Derived.Test.YtlldhmoiahcfpaaDoorGrp01
namespace Go.Proofs.YtlldhmoiahcfpaaDoor
open Go.RowKit
set_option linter.unusedVariables false
/-- a rule: its two sides -/
abbrev RulD := ByteArray × ByteArray
/-- the cells of rules -/
def ruleCells : List RulD → List Value
  | [] => []
  | p :: l => .string p.1 :: .string p.2 :: ruleCells l
theorem ruleCells_len : ∀ l : List RulD, (ruleCells l).length = l.length * 2
  | [] => rfl
  | p :: l => by simp only [ruleCells, List.length_cons, ruleCells_len l]; omega
theorem ruleCells_app : ∀ l m : List RulD, ruleCells (l ++ m) = ruleCells l ++ ruleCells m
  | [], m => rfl
  | p :: l, m => by simp only [List.cons_append, ruleCells, ruleCells_app l m]
/-- the rule at a place -/
def nthR (l : List RulD) (j : Nat) : RulD := l.getD j (⟨#[]⟩, ⟨#[]⟩)
theorem nthR_lt {l : List RulD} {j : Nat} (h : j < l.length) : nthR l j = l[j] := by simp [nthR, List.getD_eq_getElem?_getD, h]
theorem nthR_mem {l : List RulD} {j : Nat} (h : j < l.length) : nthR l j ∈ l := by rw [nthR_lt h]; exact List.getElem_mem h
theorem mem_nthR {l : List RulD} {r : RulD} (h : r ∈ l) : ∃ i, i < l.length ∧ nthR l i = r := by
  obtain ⟨i, hi, he⟩ := List.getElem_of_mem h
  exact ⟨i, hi, by rw [nthR_lt hi, he]⟩
theorem ruleCells_at : ∀ (l : List RulD) (j : Nat), j < l.length → (ruleCells l)[j * 2]? = some (.string (nthR l j).1) ∧ (ruleCells l)[j * 2 + 1]? = some (.string (nthR l j).2)
  | [], j, h => by simp at h
  | p :: l, 0, _ => by simp [ruleCells, nthR]
  | p :: l, j + 1, h => by
    have := ruleCells_at l j (by simpa using h)
    rw [show (j + 1) * 2 = j * 2 + 2 by omega, show j * 2 + 2 + 1 = (j * 2 + 1) + 2 by omega]
    have e1 : ∀ n, (ruleCells (p :: l))[n + 2]? = (ruleCells l)[n]? := fun n => rfl
    have e2 : nthR (p :: l) (j + 1) = nthR l j := rfl
    rw [e1, e1, e2]
    exact this
/-- a slice of rules -/
def RulesIn (w : World) (a : Option Addr) (l : List RulD) : Prop := CellsIn w a (ruleCells l)
theorem RulesIn.later {w w' : World} {a : Option Addr} {l : List RulD} (h : RulesIn w a l) (hb : Below w.heap.size w w') : RulesIn w' a l := CellsIn.later h hb
theorem RulesIn.cell {w : World} {a : Option Addr} {l : List RulD} (h : RulesIn w a l) {i : Nat} (hi : i < l.length) :
    ∃ b off, a = some ⟨b, off, none⟩ ∧ b < w.heap.size ∧ ∀ j, j < l.length → w.cell? ⟨b, off + j * 2, none⟩ = some (.string (nthR l j).1) ∧ w.cell? ⟨b, off + j * 2 + 1, none⟩ = some (.string (nthR l j).2) := by
  rcases h with h | ⟨b, off, ha, hc⟩
  · have := ruleCells_len l
    rw [h, List.length_nil] at this
    omega
  · have key : ∀ j, j < l.length → w.cell? ⟨b, off + j * 2, none⟩ = some (.string (nthR l j).1) ∧ w.cell? ⟨b, off + j * 2 + 1, none⟩ = some (.string (nthR l j).2) := fun j hj => by
      obtain ⟨h1, h2⟩ := ruleCells_at l j hj
      have hlen := ruleCells_len l
      have c1 := hc (j * 2) (by omega)
      have c2 := hc (j * 2 + 1) (by omega)
      rw [List.getElem?_eq_getElem (by omega)] at h1 h2
      rw [Option.some.inj h1] at c1
      rw [Option.some.inj h2] at c2
      exact ⟨c1, by rw [← Nat.add_assoc] at c2; exact c2⟩
    exact ⟨b, off, ha, World.block_lt_of_cell? w _ (key i hi).1, key⟩
theorem owns_rules {w : World} {base : Nat} {T : TypeId} {size : Nat} {a : Option Addr} {n m cap : Nat} {l : List RulD} (h : w.ownsRow base T size (.slice a m cap) n (ruleCells l)) : RulesIn w a l := owns_cells h
/-- the sizes of the sides -/
def ruleSum (l : List RulD) : Nat := (l.map fun r => r.1.size + r.2.size).sum
def ruleSumTo (l : List RulD) : Nat → Nat
  | 0 => 0
  | j + 1 => ruleSumTo l j + ((nthR l j).1.size + (nthR l j).2.size)
theorem ruleSumTo_eq (l : List RulD) : ∀ j, j ≤ l.length → ruleSumTo l j = ((l.take j).map fun r => r.1.size + r.2.size).sum
  | 0, _ => by simp [ruleSumTo]
  | j + 1, h => by
    rw [ruleSumTo, ruleSumTo_eq l j (by omega), List.take_succ_eq_append_getElem (by omega), nthR_lt (by omega), List.map_append, List.sum_append]
    simp only [List.map_cons, List.map_nil, List.sum_cons, List.sum_nil, Nat.add_zero]
theorem ruleSumTo_all (l : List RulD) : ruleSumTo l l.length = ruleSum l := by rw [ruleSumTo_eq l _ (Nat.le_refl _), List.take_length]; rfl
theorem ruleSumTo_mono (l : List RulD) {i j : Nat} (h : i ≤ j) : ruleSumTo l i ≤ ruleSumTo l j := by
  induction h with
  | refl => exact Nat.le_refl _
  | step h ih => exact Nat.le_trans ih (by simp [ruleSumTo])
theorem ruleSum_at {l : List RulD} {j : Nat} (h : j < l.length) : (nthR l j).1.size + (nthR l j).2.size ≤ ruleSum l := by
  have h1 := ruleSumTo_mono l (show j + 1 ≤ l.length from h)
  rw [ruleSumTo_all] at h1
  have : ruleSumTo l (j + 1) = ruleSumTo l j + ((nthR l j).1.size + (nthR l j).2.size) := rfl
  omega
end Go.Proofs.YtlldhmoiahcfpaaDoor
namespace Go.Proofs.YtlldhmoiahcfpaaDoor
set_option linter.unusedVariables false
section
variable {α : Type} [DecidableEq α]
/-- the number of a set: a bit for each thing -/
def codeN (x : List α) : List α → Nat
  | [] => 0
  | u :: us => (if u ∈ x then 1 else 0) + 2 * codeN x us
theorem codeN_lt (x : List α) : ∀ U : List α, codeN x U < 2 ^ U.length
  | [] => by show 0 < 1; omega
  | u :: us => by
    have ih := codeN_lt x us
    have hp : 2 ^ (u :: us).length = 2 * 2 ^ us.length := by rw [List.length_cons, Nat.pow_succ]; omega
    show (if u ∈ x then 1 else 0) + 2 * codeN x us < _
    rw [hp]
    split <;> omega
theorem codeN_inj {x y : List α} : ∀ {U : List α}, codeN x U = codeN y U → ∀ u ∈ U, (u ∈ x ↔ u ∈ y)
  | [], _, u, hu => by cases hu
  | v :: us, h, u, hu => by
    have h' : (if v ∈ x then 1 else 0) + 2 * codeN x us = (if v ∈ y then 1 else 0) + 2 * codeN y us := h
    have hh : (v ∈ x ↔ v ∈ y) ∧ codeN x us = codeN y us := by
      by_cases a : v ∈ x <;> by_cases b : v ∈ y <;> simp only [a, b, if_true, if_false] at h' ⊢ <;> simp <;> omega
    rcases List.mem_cons.1 hu with rfl | hu
    · exact hh.1
    · exact codeN_inj hh.2 u hu
theorem one_le_filter {n : Nat} : ∀ {L : List Nat}, L.Nodup → L.length ≤ (L.filter (fun x => decide (x ≠ n))).length + 1
  | [], _ => by simp
  | a :: L, h => by
    rw [List.nodup_cons] at h
    rw [List.filter_cons]
    by_cases e : a = n
    · have : L.filter (fun x => decide (x ≠ n)) = L := by
        rw [List.filter_eq_self]
        intro x hx
        have : x ≠ n := fun e2 => h.1 (by rw [e, ← e2]; exact hx)
        simpa using this
      rw [if_neg (by simpa using e), this, List.length_cons]; exact Nat.le_refl _
    · have ih := one_le_filter (n := n) h.2
      rw [if_pos (by simpa using e), List.length_cons, List.length_cons]
      omega
/-- so many different numbers below n are no more than n -/
theorem nodup_bound : ∀ (n : Nat) (L : List Nat), L.Nodup → (∀ x ∈ L, x < n) → L.length ≤ n
  | 0, L, _, h => by
    cases L with
    | nil => exact Nat.le_refl _
    | cons a l => exact absurd (h a List.mem_cons_self) (Nat.not_lt_zero _)
  | n + 1, L, hn, h => by
    have h1 := one_le_filter (n := n) hn
    have h2 := nodup_bound n (L.filter (fun x => decide (x ≠ n))) (hn.filter _) (fun x hx => by
      rw [List.mem_filter] at hx
      have := h x hx.1
      have h3 : x ≠ n := by simpa using hx.2
      omega)
    omega
theorem nodup_map {β : Type} {f : β → Nat} : ∀ {L : List β}, L.Nodup → (∀ x ∈ L, ∀ y ∈ L, f x = f y → x = y) → (L.map f).Nodup
  | [], _, _ => List.nodup_nil
  | a :: L, h, hi => by
    rw [List.nodup_cons] at h
    rw [List.map_cons, List.nodup_cons]
    refine ⟨fun hm => ?_, nodup_map h.2 (fun x hx y hy => hi x (List.mem_cons_of_mem _ hx) y (List.mem_cons_of_mem _ hy))⟩
    obtain ⟨b, hb, he⟩ := List.mem_map.1 hm
    have := hi a List.mem_cons_self b (List.mem_cons_of_mem _ hb) he.symm
    exact h.1 (by rw [this]; exact hb)
/-- so many different sets over U are no more than there are subsets -/
theorem sets_bound {U : List α} {L : List (List α)} (hn : L.Nodup) (hU : ∀ x ∈ L, ∀ u ∈ x, u ∈ U) (hx : ∀ x ∈ L, ∀ y ∈ L, (∀ u, u ∈ x ↔ u ∈ y) → x = y) : L.length ≤ 2 ^ U.length := by
  have h1 : (L.map fun x => codeN x U).Nodup := nodup_map hn (fun x hx1 y hy1 he => hx x hx1 y hy1 (fun u => by
    by_cases hu : u ∈ U
    · exact codeN_inj he u hu
    · exact ⟨fun h => absurd (hU x hx1 u h) hu, fun h => absurd (hU y hy1 u h) hu⟩))
  have h2 := nodup_bound (2 ^ U.length) _ h1 (fun z hz => by
    obtain ⟨x, _, rfl⟩ := List.mem_map.1 hz
    exact codeN_lt x U)
  rwa [List.length_map] at h2
/-- two strictly sorted lists with the same members are one -/
theorem sorted_ext {lt : α → α → Prop} (hirr : ∀ a, ¬ lt a a) (htr : ∀ a b c, lt a b → lt b c → lt a c) : ∀ {x y : List α}, x.Pairwise lt → y.Pairwise lt → (∀ u, u ∈ x ↔ u ∈ y) → x = y
  | [], y, _, _, h => by
    cases y with
    | nil => rfl
    | cons b y => exact absurd ((h b).2 List.mem_cons_self) (by simp)
  | a :: x, [], _, _, h => absurd ((h a).1 List.mem_cons_self) (by simp)
  | a :: x, b :: y, hx, hy, h => by
    rw [List.pairwise_cons] at hx hy
    have hab : a = b := by
      rcases List.mem_cons.1 ((h a).1 List.mem_cons_self) with e | e
      · exact e
      · rcases List.mem_cons.1 ((h b).2 List.mem_cons_self) with e2 | e2
        · exact e2.symm
        · exact absurd (htr _ _ _ (hx.1 b e2) (hy.1 a e)) (hirr a)
    subst hab
    have hxy : x = y := sorted_ext hirr htr hx.2 hy.2 (fun u => by
      have hu := h u
      rw [List.mem_cons, List.mem_cons] at hu
      by_cases e : u = a
      · subst e
        exact ⟨fun m => absurd (hx.1 u m) (hirr u), fun m => absurd (hy.1 u m) (hirr u)⟩
      · constructor
        · intro m; exact (hu.1 (.inr m)).resolve_left e
        · intro m; exact (hu.2 (.inr m)).resolve_left e)
    rw [hxy]
end
theorem sorted_nodup {α : Type} {lt : α → α → Prop} (hirr : ∀ a, ¬ lt a a) : ∀ {x : List α}, x.Pairwise lt → x.Nodup
  | [], _ => List.nodup_nil
  | a :: x, h => by
    rw [List.pairwise_cons] at h
    rw [List.nodup_cons]
    exact ⟨fun m => hirr a (h.1 a m), sorted_nodup hirr h.2⟩
end Go.Proofs.YtlldhmoiahcfpaaDoor
