/-
  Idempotents, regular elements and the group with an idempotent: plain facts of a valid table.
-/
import Derived.Test.YtdhaebbfiaddnaaGreatDoorGts21
import Derived.Lib.SlicesCompact
import Derived.Test.YtdhaebbfiaddnaaGreatDoorGts23
import Derived.Test.YtdhaebbfiaddnaaGreatDoorGts22
namespace Go.Proofs.YtdhaebbfiaddnaaGreatDoor
open Go.RowKit
set_option linter.unusedVariables false
theorem sorted_extZ : ∀ (l l' : List Int), l.Pairwise (· < ·) → l'.Pairwise (· < ·) → (∀ x, x ∈ l ↔ x ∈ l') → l = l'
  | [], [], _, _, _ => rfl
  | [], b :: l', _, _, h => absurd ((h b).2 (by simp)) (by simp)
  | a :: l, [], _, _, h => absurd ((h a).1 (by simp)) (by simp)
  | a :: l, b :: l', h1, h2, h => by
    rw [List.pairwise_cons] at h1 h2
    have e : a = b := by
      have ha := (h a).1 (by simp)
      have hb := (h b).2 (by simp)
      rcases List.mem_cons.1 ha with e | ha
      · exact e
      · rcases List.mem_cons.1 hb with e | hb
        · exact e.symm
        · have := h1.1 b hb; have := h2.1 a ha; omega
    subst e
    congr 1
    refine sorted_extZ l l' h1.2 h2.2 fun x => ⟨fun hx => ?_, fun hx => ?_⟩
    · rcases List.mem_cons.1 ((h x).1 (by simp [hx])) with e | hx'
      · have := h1.1 x hx; omega
      · exact hx'
    · rcases List.mem_cons.1 ((h x).2 (by simp [hx])) with e | hx'
      · have := h2.1 x hx; omega
      · exact hx'
theorem at_bang {zs : List Int} {j : Nat} (h : j < zs.length) : zs.toArray[j]! = zs[j] := by
  rw [getElem!_pos _ _ (by simpa using h)]; simp
theorem mono_at {zs : List Int} (h : zs.Pairwise (· ≤ ·)) {i j : Nat} (hij : i ≤ j) (hj : j < zs.length) : zs[i]'(by omega) ≤ zs[j] := by
  rcases Nat.lt_or_ge i j with hlt | hge
  · exact (List.pairwise_iff_getElem.1 h) i j (by omega) hj hlt
  · have : i = j := by omega
    subst this; exact Int.le_refl _
theorem compact_lt {zs : List Int} (h : zs.Pairwise (· ≤ ·)) : (Go.Lib.compact zs).Pairwise (· < ·) := by
  unfold Go.Lib.compact Go.Lib.compactUpTo
  rw [List.pairwise_map]
  have h0 : ((List.range zs.length).filter (Go.Lib.keeps zs.toArray)).Pairwise (· < ·) := List.Pairwise.filter _ List.pairwise_lt_range
  refine List.Pairwise.imp_of_mem (fun {i j} hi hj hij => ?_) h0
  have hi' := List.mem_filter.1 hi
  have hj' := List.mem_filter.1 hj
  have hjl := List.mem_range.1 hj'.1
  have hk : zs.toArray[j]! ≠ zs.toArray[j - 1]! := by
    have := hj'.2
    simp only [Go.Lib.keeps, decide_eq_true_eq] at this
    rcases this with e | e
    · omega
    · exact e
  rw [at_bang (by omega), at_bang (by omega)] at hk ⊢
  have h1 := mono_at h (i := i) (j := j - 1) (by omega) (by omega)
  have h2 := mono_at h (i := j - 1) (j := j) (by omega) (by omega)
  omega
theorem compact_mem (zs : List Int) (x : Int) : x ∈ Go.Lib.compact zs ↔ x ∈ zs := by
  unfold Go.Lib.compact Go.Lib.compactUpTo
  constructor
  · intro h
    obtain ⟨i, hi, rfl⟩ := List.mem_map.1 h
    have := List.mem_range.1 (List.mem_filter.1 hi).1
    rw [at_bang this]
    exact List.getElem_mem this
  · intro h
    have key : ∀ i, i < zs.length → zs.toArray[i]! ∈ List.map (zs.toArray[·]!) ((List.range zs.length).filter (Go.Lib.keeps zs.toArray)) := by
      intro i
      induction i with
      | zero => exact fun h => List.mem_map.2 ⟨0, List.mem_filter.2 ⟨List.mem_range.2 h, by simp [Go.Lib.keeps]⟩, rfl⟩
      | succ i ih =>
        intro hi
        by_cases he : zs.toArray[i + 1]! = zs.toArray[i]!
        · rw [he]; exact ih (by omega)
        · exact List.mem_map.2 ⟨i + 1, List.mem_filter.2 ⟨List.mem_range.2 hi, by simp only [Go.Lib.keeps, decide_eq_true_eq]; exact .inr he⟩, rfl⟩
    obtain ⟨i, hi, rfl⟩ := List.getElem_of_mem h
    rw [← at_bang hi]
    exact key i hi
def sortL (l : List Int) : List Int := l.mergeSort fun x y => decide (x ≤ y)
def collL (l : List Int) : List Int := Go.Lib.compact (sortL l)
theorem sortL_len (l : List Int) : (sortL l).length = l.length := by simp [sortL]
theorem sortL_le (l : List Int) : (sortL l).Pairwise (· ≤ ·) := by
  have := List.pairwise_mergeSort (le := fun x y : Int => decide (x ≤ y)) (fun a b c h1 h2 => by simp at *; omega) (fun a b => by simp; omega) l
  exact this.imp fun h => by simpa using h
theorem sortL_mem (l : List Int) (x : Int) : x ∈ sortL l ↔ x ∈ l := by unfold sortL; exact List.mem_mergeSort
theorem listTo_lt (f : Nat → Bool) (m : Nat) : (listTo f m).Pairwise (· < ·) := by
  unfold listTo
  rw [List.pairwise_map]
  exact (List.Pairwise.filter _ List.pairwise_lt_range).imp fun h => by simpa using h
theorem listTo_mem (f : Nat → Bool) (m : Nat) (x : Int) : x ∈ listTo f m ↔ ∃ j : Nat, x = j ∧ j < m ∧ f j = true := by
  unfold listTo
  simp only [List.mem_map, List.mem_filter, List.mem_range, Int.ofNat_eq_natCast]
  constructor
  · rintro ⟨j, h, rfl⟩; exact ⟨j, rfl, h⟩
  · rintro ⟨j, rfl, h⟩; exact ⟨j, h, rfl⟩
theorem collL_eq {l : List Int} {m : Nat} {f : Nat → Bool} (h : ∀ x ∈ l, ∃ j : Nat, x = j ∧ j < m) (hf : ∀ j, j < m → (f j = true ↔ (j : Int) ∈ l)) : collL l = listTo f m := by
  refine sorted_extZ _ _ (compact_lt (sortL_le l)) (listTo_lt f m) fun x => ?_
  rw [collL, compact_mem, sortL_mem, listTo_mem]
  constructor
  · intro hx
    obtain ⟨j, rfl, hj⟩ := h x hx
    exact ⟨j, rfl, hj, (hf j hj).2 hx⟩
  · rintro ⟨j, rfl, hj, hx⟩
    exact (hf j hj).1 hx
theorem collL_len (l : List Int) : (collL l).length ≤ l.length := by
  unfold collL Go.Lib.compact Go.Lib.compactUpTo
  rw [List.length_map]
  exact Nat.le_trans (List.length_filter_le _ _) (by simp [sortL])
end Go.Proofs.YtdhaebbfiaddnaaGreatDoor
namespace Go.Proofs.YtdhaebbfiaddnaaGreatDoor
open Go.RowKit
set_option linter.unusedVariables false
/-- x is a product of i and one of the first c elements -/
def idR (m : Nat) (ln : List Nat) (i c x : Nat) : Bool := (List.range c).any fun y => decide (tm m ln i y = x)
def idL (m : Nat) (ln : List Nat) (i c x : Nat) : Bool := (List.range c).any fun y => decide (tm m ln y i = x)
def idI (m : Nat) (ln : List Nat) (i y d x : Nat) : Bool := (List.range d).any fun z => decide (tm m ln (tm m ln y i) z = x)
def idB (m : Nat) (ln : List Nat) (i c x : Nat) : Bool := (List.range c).any fun y => idI m ln i y m x
def idBI (m : Nat) (ln : List Nat) (i c d x : Nat) : Bool := idB m ln i c x || idI m ln i c d x
/-- x lies in the ideal of i: of kind 1, 2, or any other -/
def inId (m : Nat) (ln : List Nat) (kind : Int) (i x : Nat) : Bool := if kind = 1 then idR m ln i m x else if kind = 2 then idL m ln i m x else idB m ln i m x
section
variable {m : Nat} {ln : List Nat}
theorem any_succ (p : Nat → Bool) (c : Nat) : (List.range (c + 1)).any p = ((List.range c).any p || p c) := by simp [List.range_succ]
theorem idR_zero (i x : Nat) : idR m ln i 0 x = false := rfl
theorem idL_zero (i x : Nat) : idL m ln i 0 x = false := rfl
theorem idB_zero (i x : Nat) : idB m ln i 0 x = false := rfl
theorem idBI_zero (i c x : Nat) : idBI m ln i c 0 x = idB m ln i c x := by simp [idBI, idI]
theorem idR_succ (i c x : Nat) : (if x = tm m ln i c then true else idR m ln i c x) = idR m ln i (c + 1) x := by
  unfold idR; rw [any_succ]
  by_cases h : x = tm m ln i c
  · subst h; simp
  · have : ¬ tm m ln i c = x := fun e => h e.symm
    simp [h, this]
theorem idL_succ (i c x : Nat) : (if x = tm m ln c i then true else idL m ln i c x) = idL m ln i (c + 1) x := by
  unfold idL; rw [any_succ]
  by_cases h : x = tm m ln c i
  · subst h; simp
  · have : ¬ tm m ln c i = x := fun e => h e.symm
    simp [h, this]
theorem idBI_succ (i c d x : Nat) : (if x = tm m ln (tm m ln c i) d then true else idBI m ln i c d x) = idBI m ln i c (d + 1) x := by
  unfold idBI idI; rw [any_succ]
  by_cases h : x = tm m ln (tm m ln c i) d
  · subst h; simp
  · have : ¬ tm m ln (tm m ln c i) d = x := fun e => h e.symm
    simp [h, this]
theorem idBI_full (i c x : Nat) : idBI m ln i c m x = idB m ln i (c + 1) x := by
  unfold idBI idB; rw [any_succ]
theorem inId_1 (i x : Nat) : inId m ln 1 i x = idR m ln i m x := rfl
theorem inId_2 (i x : Nat) : inId m ln 2 i x = idL m ln i m x := rfl
theorem inId_3 {kind : Int} (h1 : kind ≠ 1) (h2 : kind ≠ 2) (i x : Nat) : inId m ln kind i x = idB m ln i m x := by unfold inId; rw [if_neg h1, if_neg h2]
/-- the elements of an ideal -/
def idLs (m : Nat) (ln : List Nat) (kind : Int) (i : Nat) : List Int := listTo (inId m ln kind i) m
theorem idLs_len (kind : Int) (i : Nat) : (idLs m ln kind i).length ≤ m := listTo_len _ _
theorem idLs_nn {kind : Int} {i : Nat} {x : Int} (h : x ∈ idLs m ln kind i) : 0 ≤ x := by
  obtain ⟨j, rfl, _⟩ := (listTo_mem _ _ _).1 h
  omega
/-- the products that the program lists -/
def prR (m : Nat) (ln : List Nat) (i c : Nat) : List Int := (List.range c).map fun y => ((tm m ln i y : Nat) : Int)
def prL (m : Nat) (ln : List Nat) (i c : Nat) : List Int := (List.range c).map fun y => ((tm m ln y i : Nat) : Int)
def prI (m : Nat) (ln : List Nat) (i y d : Nat) : List Int := (List.range d).map fun z => ((tm m ln (tm m ln y i) z : Nat) : Int)
def prB (m : Nat) (ln : List Nat) (i c d : Nat) : List Int := ((List.range c).flatMap fun y => prI m ln i y m) ++ prI m ln i c d
theorem prR_succ (i c : Nat) : prR m ln i (c + 1) = prR m ln i c ++ [((tm m ln i c : Nat) : Int)] := by simp [prR, List.range_succ]
theorem prL_succ (i c : Nat) : prL m ln i (c + 1) = prL m ln i c ++ [((tm m ln c i : Nat) : Int)] := by simp [prL, List.range_succ]
theorem prB_succ (i c d : Nat) : prB m ln i c (d + 1) = prB m ln i c d ++ [((tm m ln (tm m ln c i) d : Nat) : Int)] := by simp [prB, prI, List.range_succ]
theorem prB_full (i c : Nat) : prB m ln i c m = prB m ln i (c + 1) 0 := by simp [prB, prI, List.range_succ]
theorem prR_len (i c : Nat) : (prR m ln i c).length = c := by simp [prR]
theorem prL_len (i c : Nat) : (prL m ln i c).length = c := by simp [prL]
theorem prB_len (i c d : Nat) : (prB m ln i c d).length = c * m + d := by
  unfold prB
  rw [List.length_append]
  have h : ∀ n, ((List.range n).flatMap fun y => prI m ln i y m).length = n * m := fun n => by
    induction n with
    | zero => simp
    | succ n ih => rw [List.range_succ, List.flatMap_append, List.length_append, ih, Nat.succ_mul]; simp [prI]
  rw [h]; simp [prI]
theorem collL_R (hT : Tb m ln) {i : Nat} (hi : i < m) : collL (prR m ln i m) = idLs m ln 1 i := by
  refine collL_eq (fun x hx => ?_) (fun j hj => ?_)
  · obtain ⟨y, hy, rfl⟩ := List.mem_map.1 hx
    exact ⟨_, rfl, hT.tm_lt hi (List.mem_range.1 hy)⟩
  · rw [inId_1]
    unfold idR prR
    rw [List.any_eq_true, List.mem_map]
    constructor
    · rintro ⟨y, hy, h⟩; exact ⟨y, hy, by have := of_decide_eq_true h; omega⟩
    · rintro ⟨y, hy, h⟩; exact ⟨y, hy, decide_eq_true (by omega)⟩
theorem collL_L (hT : Tb m ln) {i : Nat} (hi : i < m) : collL (prL m ln i m) = idLs m ln 2 i := by
  refine collL_eq (fun x hx => ?_) (fun j hj => ?_)
  · obtain ⟨y, hy, rfl⟩ := List.mem_map.1 hx
    exact ⟨_, rfl, hT.tm_lt (List.mem_range.1 hy) hi⟩
  · rw [inId_2]
    unfold idL prL
    rw [List.any_eq_true, List.mem_map]
    constructor
    · rintro ⟨y, hy, h⟩; exact ⟨y, hy, by have := of_decide_eq_true h; omega⟩
    · rintro ⟨y, hy, h⟩; exact ⟨y, hy, decide_eq_true (by omega)⟩
theorem collL_B (hT : Tb m ln) {kind : Int} (h1 : kind ≠ 1) (h2 : kind ≠ 2) {i : Nat} (hi : i < m) : collL (prB m ln i m 0) = idLs m ln kind i := by
  refine collL_eq (fun x hx => ?_) (fun j hj => ?_)
  · unfold prB at hx
    simp only [prI, List.range_zero, List.map_nil, List.append_nil, List.mem_flatMap, List.mem_map, List.mem_range] at hx
    obtain ⟨y, hy, z, hz, rfl⟩ := hx
    exact ⟨_, rfl, hT.tm_lt (hT.tm_lt hy hi) hz⟩
  · rw [inId_3 h1 h2]
    unfold idB prB idI
    simp only [prI, List.range_zero, List.map_nil, List.append_nil, List.mem_flatMap, List.mem_map, List.any_eq_true, decide_eq_true_eq]
    constructor
    · rintro ⟨y, hy, z, hz, h⟩; exact ⟨y, hy, z, hz, by omega⟩
    · rintro ⟨y, hy, z, hz, h⟩; exact ⟨y, hy, z, hz, by omega⟩
end
/-- two elements are related -/
def relK (m : Nat) (ln : List Nat) (kind : Int) (i k : Nat) : Bool :=
  if kind = 4 then decide (idLs m ln 1 i = idLs m ln 1 k) && decide (idLs m ln 2 i = idLs m ln 2 k) else decide (idLs m ln kind i = idLs m ln kind k)
/-- what the program compares -/
def keyK (m : Nat) (ln : List Nat) (kind : Int) (i : Nat) : List Int := if kind = 4 then idLs m ln 1 i ++ [-1] ++ idLs m ln 2 i else idLs m ln kind i
theorem cut_eq : ∀ {a b c d : List Int}, (∀ x ∈ a, 0 ≤ x) → (∀ x ∈ c, 0 ≤ x) → a ++ -1 :: b = c ++ -1 :: d → a = c ∧ b = d
  | [], b, [], d, _, _, h => ⟨rfl, by simpa using h⟩
  | [], b, y :: c, d, _, hc, h => by
    simp only [List.nil_append, List.cons_append, List.cons.injEq] at h
    have := hc y (by simp); omega
  | x :: a, b, [], d, ha, _, h => by
    simp only [List.nil_append, List.cons_append, List.cons.injEq] at h
    have := ha x (by simp); omega
  | x :: a, b, y :: c, d, ha, hc, h => by
    simp only [List.cons_append, List.cons.injEq] at h
    obtain ⟨rfl, h⟩ := h
    obtain ⟨rfl, rfl⟩ := cut_eq (fun z hz => ha z (by simp [hz])) (fun z hz => hc z (by simp [hz])) h
    exact ⟨rfl, rfl⟩
theorem relK_key (m : Nat) (ln : List Nat) (kind : Int) (i k : Nat) : relK m ln kind i k = decide (keyK m ln kind i = keyK m ln kind k) := by
  unfold relK keyK
  by_cases h : kind = 4
  · rw [if_pos h, if_pos h, if_pos h, Bool.eq_iff_iff]
    simp only [Bool.and_eq_true, decide_eq_true_eq]
    constructor
    · rintro ⟨h1, h2⟩; rw [h1, h2]
    · intro h3
      simp only [List.append_assoc, List.cons_append, List.nil_append] at h3
      exact cut_eq (fun x hx => idLs_nn hx) (fun x hx => idLs_nn hx) h3
  · rw [if_neg h, if_neg h, if_neg h]
theorem relK_refl (m : Nat) (ln : List Nat) (kind : Int) (i : Nat) : relK m ln kind i i = true := by rw [relK_key]; simp
theorem relK_fun {m : Nat} {ln : List Nat} {kind : Int} {i k : Nat} (h : relK m ln kind i k = true) : relK m ln kind i = relK m ln kind k := by
  rw [relK_key] at h
  have := of_decide_eq_true h
  funext j
  rw [relK_key, relK_key, this]
theorem relK_four (m : Nat) (ln : List Nat) (i k : Nat) : relK m ln 4 i k = (relK m ln 1 i k && relK m ln 2 i k) := rfl
theorem relK_not4 {m : Nat} {ln : List Nat} {kind : Int} (h : kind ≠ 4) (i k : Nat) : relK m ln kind i k = decide (idLs m ln kind i = idLs m ln kind k) := by unfold relK; rw [if_neg h]
/-- the number that the reference gives, when it has come down to j -/
def clsV (p : Nat → Nat → Bool) (i j : Nat) : Int := match ((List.range i).drop j).find? (p i) with | some k => nthZ (numO p i) k | none => ((numF p i).length : Int)
theorem clsV_top (p : Nat → Nat → Bool) (i : Nat) : clsV p i i = ((numF p i).length : Int) := by
  unfold clsV
  rw [List.drop_eq_nil_of_le (by simp)]
  rfl
theorem clsV_down {p : Nat → Nat → Bool} {i j : Nat} (h : j < i) : clsV p i j = if p i j = true then nthZ (numO p i) j else clsV p i (j + 1) := by
  unfold clsV
  rw [List.drop_eq_getElem_cons (by simpa using h)]
  simp only [List.getElem_range, List.find?_cons]
  cases p i j <;> simp
theorem numI_lt (p : Nat → Nat → Bool) (F : List Nat) (j : Nat) : numI p F j < (F.length : Int) := by
  unfold numI
  cases h : F.findIdx? (p j)
  · simp; omega
  · rename_i i
    rw [List.findIdx?_eq_some_iff_getElem] at h
    obtain ⟨hi, _⟩ := h
    simp only
    omega
theorem numV_nn (p : Nat → Nat → Bool) (F : List Nat) (j : Nat) : 0 ≤ numV p F j := by
  unfold numV
  split
  · omega
  · omega
theorem numO_nth {p : Nat → Nat → Bool} {c j : Nat} (h : j < c) : nthZ (numO p c) j = numV p (numF p j) j := by
  rw [nthZ_lt (by rw [numO_len]; exact h)]
  simp [numO]
theorem clsV_zero {p : Nat → Nat → Bool} (hr : ∀ i, p i i = true) (hf : ∀ i k, p i k = true → p i = p k) (i : Nat) : clsV p i 0 = numV p (numF p i) i := by
  unfold clsV
  rw [List.drop_zero]
  cases h : (List.range i).find? (p i)
  · simp only
    rw [List.find?_eq_none] at h
    have h2 : (numF p i).any (p i) = false := by
      rw [List.any_eq_false]
      intro x hx
      exact h x (List.mem_range.2 (numF_lt p i x hx))
    rw [numV_no ((numI_neg _ _ _).2 h2)]
  · rename_i k
    simp only
    have h1 := List.find?_some h
    have h2 := List.mem_range.1 (List.mem_of_find?_eq_some h)
    rw [numO_nth h2, ← numI_full (m := i) (fun i _ => hr i) h2]
    have h3 : numI p (numF p i) k = numI p (numF p i) i := by unfold numI; rw [hf i k h1]
    rw [h3]
    have h4 : 0 ≤ numI p (numF p i) i := by
      rw [← h3, numI_full (m := i) (fun i _ => hr i) h2]
      exact numV_nn _ _ _
    rw [numV_yes (by omega)]
theorem numF_count {p : Nat → Nat → Bool} (i : Nat) : ((numF p (i + 1)).length : Int) = if numV p (numF p i) i = ((numF p i).length : Int) then ((numF p i).length : Int) + 1 else ((numF p i).length : Int) := by
  by_cases h : numI p (numF p i) i < 0
  · rw [numV_no h, if_pos rfl, numF_no h]; simp
  · rw [numV_yes h, numF_yes h]
    have := numI_lt p (numF p i) i
    rw [if_neg (by omega)]
/-- how many classes the numbers of classes tell of -/
def cntF (l : List Int) : Int := l.foldl (fun n x => max n (x + 1)) 0
theorem cntF_step (l : List Int) (x : Int) : cntF (l ++ [x]) = max (cntF l) (x + 1) := by simp [cntF]
theorem cntF_ge : ∀ (l : List Int) (n : Int), n ≤ l.foldl (fun n x => max n (x + 1)) n ∧ ∀ x ∈ l, x + 1 ≤ l.foldl (fun n x => max n (x + 1)) n
  | [], n => ⟨Int.le_refl _, fun x hx => by cases hx⟩
  | y :: l, n => by
    have := cntF_ge l (max n (y + 1))
    simp only [List.foldl_cons]
    refine ⟨by omega, fun x hx => ?_⟩
    rcases List.mem_cons.1 hx with rfl | hx
    · omega
    · exact this.2 x hx
theorem cntF_le : ∀ (l : List Int) (n M : Int), n ≤ M + 1 → (∀ x ∈ l, x ≤ M) → l.foldl (fun n x => max n (x + 1)) n ≤ M + 1
  | [], n, M, h, _ => h
  | y :: l, n, M, h, hl => by
    simp only [List.foldl_cons]
    exact cntF_le l _ M (by have := hl y (by simp); omega) (fun x hx => hl x (by simp [hx]))
theorem cntF_max {l : List Int} {M : Int} (h1 : M ∈ l) (h2 : ∀ x ∈ l, x ≤ M) (h3 : 0 ≤ M) : cntF l = M + 1 := by
  have a := (cntF_ge l 0).2 M h1
  have b := cntF_le l 0 M (by omega) h2
  unfold cntF
  omega
theorem cntF_few {l : List Int} {n : Nat} (h : ∀ x ∈ l, x < (n : Int)) : 0 ≤ cntF l ∧ cntF l ≤ (n : Int) := by
  have a := (cntF_ge l 0).1
  have b := cntF_le l 0 ((n : Int) - 1) (by omega) (fun x hx => by have := h x hx; omega)
  unfold cntF
  omega
theorem numV_le {p : Nat → Nat → Bool} {F : List Nat} {j : Nat} : numV p F j ≤ (F.length : Int) := by
  unfold numV
  split
  · omega
  · have := numI_lt p F j; omega
theorem numO_small {p : Nat → Nat → Bool} {c : Nat} {x : Int} (h : x ∈ numO p c) : 0 ≤ x ∧ x < (c : Int) := by
  unfold numO at h
  obtain ⟨j, hj, rfl⟩ := List.mem_map.1 h
  have h1 := List.mem_range.1 hj
  have h2 := numF_len p j
  have h3 := numV_le (p := p) (F := numF p j) (j := j)
  exact ⟨numV_nn _ _ _, by omega⟩
/-- ClassesOf and CountClasses as functions of plain data -/
def clzF (n : Int) (l : List Int) (kind : Int) : List Int := if tabB n l && inB kind 1 4 then numO (relK n.toNat (l.map Int.toNat) kind) n.toNat else []
theorem clzF_no1 {n : Int} {l : List Int} {kind : Int} (h : tabB n l = false) : clzF n l kind = [] := by simp [clzF, h]
theorem clzF_no2 {n : Int} {l : List Int} {kind : Int} (h : inB kind 1 4 = false) : clzF n l kind = [] := by simp [clzF, h]
theorem clzF_yes {m : Nat} {ln : List Nat} {kind : Int} (h : tabB (m : Nat) (ln.map Int.ofNat) = true) (h2 : inB kind 1 4 = true) : clzF (m : Nat) (ln.map Int.ofNat) kind = numO (relK m ln kind) m := by
  unfold clzF
  rw [h, h2, map_toNat']
  rfl
theorem clzF_small {n : Int} {l : List Int} {kind : Int} {x : Int} (h : x ∈ clzF n l kind) : 0 ≤ x ∧ x < 40 := by
  unfold clzF at h
  cases ht : tabB n l
  · rw [ht] at h; simp at h
  · obtain ⟨m, ln, rfl, rfl, hT⟩ := tabOk_out ht
    have := hT.hi
    split at h
    · have := numO_small h; simp at this; omega
    · cases h
theorem clzF_len (n : Int) (l : List Int) (kind : Int) : (clzF n l kind).length ≤ 40 := by
  unfold clzF
  cases ht : tabB n l
  · simp
  · obtain ⟨m, ln, rfl, rfl, hT⟩ := tabOk_out ht
    have := hT.hi
    split
    · rw [numO_len]; simpa using this
    · simp
end Go.Proofs.YtdhaebbfiaddnaaGreatDoor
namespace Go.Proofs.YtdhaebbfiaddnaaGreatDoor
open Go.RowKit
set_option linter.unusedVariables false
set_option linter.unusedSectionVars false
theorem listTo_congr {f g : Nat → Bool} {m : Nat} (h : ∀ x, x < m → f x = g x) : listTo f m = listTo g m := by
  unfold listTo
  congr 1
  exact List.filter_congr fun x hx => h x (List.mem_range.1 hx)
theorem listTo_inj {f g : Nat → Bool} {m : Nat} (h : listTo f m = listTo g m) {x : Nat} (hx : x < m) : f x = g x := by
  rw [Bool.eq_iff_iff]
  have key : ∀ f : Nat → Bool, f x = true ↔ ((x : Nat) : Int) ∈ listTo f m := fun f => by
    rw [listTo_mem]
    constructor
    · intro hf; exact ⟨x, rfl, hx, hf⟩
    · rintro ⟨j, e, _, hf⟩
      have : j = x := by omega
      rw [← this]; exact hf
  rw [key f, key g, h]
theorem listTo_at {f : Nat → Bool} {m x : Nat} : ((x : Nat) : Int) ∈ listTo f m ↔ x < m ∧ f x = true := by
  rw [listTo_mem]
  constructor
  · rintro ⟨j, e, hj, hf⟩
    have : j = x := by omega
    subst this
    exact ⟨hj, hf⟩
  · rintro ⟨h1, h2⟩; exact ⟨x, rfl, h1, h2⟩
section
variable {m : Nat} {ln : List Nat} (h : TabOk m ln)
theorem idR_iff {i x c : Nat} : idR m ln i c x = true ↔ ∃ y, y < c ∧ tm m ln i y = x := by
  unfold idR
  simp
theorem idL_iff {i x c : Nat} : idL m ln i c x = true ↔ ∃ y, y < c ∧ tm m ln y i = x := by
  unfold idL
  simp
include h
theorem idR_le {i k : Nat} (hi : i < m) (hk : k < m) (hr : ∃ a, a < m ∧ tm m ln k a = i) {x : Nat} (hx : idR m ln i m x = true) : idR m ln k m x = true := by
  obtain ⟨a, ha, rfl⟩ := hr
  obtain ⟨y, hy, rfl⟩ := idR_iff.1 hx
  exact idR_iff.2 ⟨tm m ln a y, h.tm_lt ha hy, (h.assoc k a y hk ha hy).symm⟩
theorem idL_le {i k : Nat} (hi : i < m) (hk : k < m) (hr : ∃ a, a < m ∧ tm m ln a k = i) {x : Nat} (hx : idL m ln i m x = true) : idL m ln k m x = true := by
  obtain ⟨a, ha, rfl⟩ := hr
  obtain ⟨y, hy, rfl⟩ := idL_iff.1 hx
  exact idL_iff.2 ⟨tm m ln y a, h.tm_lt hy ha, h.assoc y a k hy ha hk⟩
theorem rel1_iff {i k : Nat} (hi : i < m) (hk : k < m) : relK m ln 1 i k = true ↔ (∃ a, a < m ∧ tm m ln k a = i) ∧ (∃ b, b < m ∧ tm m ln i b = k) := by
  rw [relK_not4 (by decide), decide_eq_true_eq]
  constructor
  · intro he
    have h1 := listTo_inj he hi
    have h2 := listTo_inj he hk
    rw [inId_1, inId_1] at h1 h2
    exact ⟨idR_iff.1 (h1.symm.trans (idR_iff.2 ⟨0, h.lo, h.right i hi⟩)), idR_iff.1 (h2.trans (idR_iff.2 ⟨0, h.lo, h.right k hk⟩))⟩
  · rintro ⟨h1, h2⟩
    refine listTo_congr fun x hx => ?_
    rw [inId_1, inId_1, Bool.eq_iff_iff]
    exact ⟨idR_le h hi hk h1, idR_le h hk hi h2⟩
theorem rel2_iff {i k : Nat} (hi : i < m) (hk : k < m) : relK m ln 2 i k = true ↔ (∃ a, a < m ∧ tm m ln a k = i) ∧ (∃ b, b < m ∧ tm m ln b i = k) := by
  rw [relK_not4 (by decide), decide_eq_true_eq]
  constructor
  · intro he
    have h1 := listTo_inj he hi
    have h2 := listTo_inj he hk
    rw [inId_2, inId_2] at h1 h2
    exact ⟨idL_iff.1 (h1.symm.trans (idL_iff.2 ⟨0, h.lo, h.left i hi⟩)), idL_iff.1 (h2.trans (idL_iff.2 ⟨0, h.lo, h.left k hk⟩))⟩
  · rintro ⟨h1, h2⟩
    refine listTo_congr fun x hx => ?_
    rw [inId_2, inId_2, Bool.eq_iff_iff]
    exact ⟨idL_le h hi hk h1, idL_le h hk hi h2⟩
/-- related to an idempotent on both sides -/
theorem rel4_iff {i k : Nat} (hi : i < m) (hk : k < m) : relK m ln 4 i k = true ↔ ((∃ a, a < m ∧ tm m ln k a = i) ∧ (∃ b, b < m ∧ tm m ln i b = k)) ∧ ((∃ a, a < m ∧ tm m ln a k = i) ∧ (∃ b, b < m ∧ tm m ln b i = k)) := by
  rw [relK_four, Bool.and_eq_true, rel1_iff h hi hk, rel2_iff h hi hk]
theorem rel_unit {e y : Nat} (he : e < m) (hee : tm m ln e e = e) (hy : y < m) (hr : relK m ln 4 y e = true) : tm m ln e y = y ∧ tm m ln y e = y := by
  obtain ⟨⟨⟨a, ha, h1⟩, _⟩, ⟨b, hb, h2⟩, _⟩ := (rel4_iff h hy he).1 hr
  constructor
  · rw [← h1, ← h.assoc e e a he he ha, hee]
  · rw [← h2, h.assoc b e e hb he he, hee]
theorem rel_prod {e y z : Nat} (he : e < m) (hee : tm m ln e e = e) (hy : y < m) (hz : z < m) (hry : relK m ln 4 y e = true) (hrz : relK m ln 4 z e = true) : relK m ln 4 (tm m ln y z) e = true := by
  obtain ⟨ey, ye⟩ := rel_unit h he hee hy hry
  obtain ⟨ez, ze⟩ := rel_unit h he hee hz hrz
  obtain ⟨⟨_, b1, hb1, y1⟩, _, c1, hc1, y2⟩ := (rel4_iff h hy he).1 hry
  obtain ⟨⟨_, b2, hb2, z1⟩, _, c2, hc2, z2⟩ := (rel4_iff h hz he).1 hrz
  have hp := h.tm_lt hy hz
  refine (rel4_iff h hp he).2 ⟨⟨⟨_, hp, ?_⟩, tm m ln b2 b1, h.tm_lt hb2 hb1, ?_⟩, ⟨_, hp, ?_⟩, tm m ln c2 c1, h.tm_lt hc2 hc1, ?_⟩
  · rw [← h.assoc e y z he hy hz, ey]
  · rw [← h.assoc _ b2 b1 hp hb2 hb1, h.assoc y z b2 hy hz hb2, z1, ye, y1]
  · rw [h.assoc y z e hy hz he, ze]
  · rw [h.assoc c2 c1 _ hc2 hc1 hp, ← h.assoc c1 y z hc1 hy hz, y2, ez, z2]
theorem rel_inv {e y : Nat} (he : e < m) (hee : tm m ln e e = e) (hy : y < m) (hry : relK m ln 4 y e = true) : ∃ z, z < m ∧ relK m ln 4 z e = true ∧ tm m ln y z = e := by
  obtain ⟨ey, ye⟩ := rel_unit h he hee hy hry
  obtain ⟨⟨_, b, hb, y1⟩, _, d, hd, y2⟩ := (rel4_iff h hy he).1 hry
  have heb := h.tm_lt he hb
  have hz := h.tm_lt heb he
  have p1 : tm m ln y (tm m ln (tm m ln e b) e) = e := by
    rw [← h.assoc y (tm m ln e b) e hy heb he, ← h.assoc y e b hy he hb, ye, y1, hee]
  have p2 : tm m ln (tm m ln (tm m ln e b) e) y = e := by
    rw [h.assoc (tm m ln e b) e y heb he hy, ey]
    have e1 : tm m ln (tm m ln e b) y = tm m ln d (tm m ln y (tm m ln b y)) := by
      rw [← h.assoc d y _ hd hy (h.tm_lt hb hy), y2, h.assoc e b y he hb hy]
    rw [e1, ← h.assoc y b y hy hb hy, y1, ey, y2]
  have p3 : tm m ln e (tm m ln (tm m ln e b) e) = tm m ln (tm m ln e b) e := by
    rw [← h.assoc e (tm m ln e b) e he heb he, ← h.assoc e e b he he hb, hee]
  have p4 : tm m ln (tm m ln (tm m ln e b) e) e = tm m ln (tm m ln e b) e := by
    rw [h.assoc (tm m ln e b) e e heb he he, hee]
  exact ⟨_, hz, (rel4_iff h hz he).2 ⟨⟨⟨_, hz, p3⟩, y, hy, p2⟩, ⟨_, hz, p4⟩, y, hy, p1⟩, p1⟩
theorem idem_reg {i : Nat} (hi : i < m) (he : idemB m ln i = true) : isReg m ln i = true := by
  have hee : tm m ln i i = i := by simpa [idemB] using he
  unfold isReg
  rw [Bool.not_eq_true', Bool.eq_false_iff]
  intro ha
  have := all_range.1 ha i hi
  unfold regB at this
  rw [hee, hee] at this
  simp at this
theorem zero_idem : idemB m ln 0 = true := by unfold idemB; rw [decide_eq_true_eq]; exact h.left 0 h.lo
theorem unit_iff {i : Nat} : isUnit m ln i = true ↔ ∃ k, k < m ∧ tm m ln i k = 0 ∧ tm m ln k i = 0 := by
  unfold isUnit
  rw [Bool.not_eq_true']
  constructor
  · intro hf
    rcases Classical.em (∃ k, k < m ∧ tm m ln i k = 0 ∧ tm m ln k i = 0) with h1 | h1
    · exact h1
    · exfalso
      rw [Bool.eq_false_iff] at hf
      refine hf (all_range.2 fun k hk => ?_)
      cases hb : unB m ln i k
      · exfalso
        unfold unB at hb
        simp at hb
        exact h1 ⟨k, hk, hb.1, hb.2⟩
      · rfl
  · rintro ⟨k, hk, h1, h2⟩
    refine all_range_false hk ?_
    unfold unB
    simp [h1, h2]
theorem unit_rel {i : Nat} (hi : i < m) : relK m ln 4 i 0 = isUnit m ln i := by
  rw [Bool.eq_iff_iff, rel4_iff h hi h.lo, unit_iff h]
  constructor
  · rintro ⟨⟨_, b, hb, h1⟩, _, d, hd, h2⟩
    have e : d = b := by
      have h3 := h.assoc d i b hd hi hb
      rw [h2, h1, h.left b hb, h.right d hd] at h3
      exact h3.symm
    subst e
    exact ⟨d, hb, h1, h2⟩
  · rintro ⟨k, hk, h1, h2⟩
    exact ⟨⟨⟨i, hi, h.left i hi⟩, k, hk, h1⟩, ⟨i, hi, h.right i hi⟩, k, hk, h2⟩
theorem idem_unit {e : Nat} (he : e < m) (hee : idemB m ln e = true) (hu : isUnit m ln e = true) : e = 0 := by
  have h1 : tm m ln e e = e := by simpa [idemB] using hee
  obtain ⟨k, hk, h2, h3⟩ := (unit_iff h).1 hu
  have h4 := h.assoc k e e hk he he
  rw [h3, h1, h3, h.left e he] at h4
  exact h4
end
theorem listTo_mono {f g : Nat → Bool} {m : Nat} (h : ∀ x, x < m → f x = true → g x = true) : (listTo f m).length ≤ (listTo g m).length := by
  unfold listTo
  rw [List.length_map, List.length_map]
  have key : ∀ l : List Nat, (∀ x ∈ l, x < m) → (l.filter f).length ≤ (l.filter g).length := by
    intro l
    induction l with
    | nil => intro _; exact Nat.le_refl _
    | cons x l ih =>
      intro hl
      have h1 := ih fun y hy => hl y (List.mem_cons_of_mem _ hy)
      rw [List.filter_cons, List.filter_cons]
      cases hf : f x
      · cases hg : g x <;> simp <;> omega
      · rw [h x (hl x List.mem_cons_self) hf]
        simp; omega
  exact key _ fun x hx => List.mem_range.1 hx
theorem listTo_all {f : Nat → Bool} {m : Nat} (h : (listTo f m).length = m) {x : Nat} (hx : x < m) : f x = true := by
  unfold listTo at h
  rw [List.length_map] at h
  have h1 : ((List.range m).filter f).length = (List.range m).length := by rw [h, List.length_range]
  exact List.length_filter_eq_length_iff.1 h1 x (List.mem_range.2 hx)
theorem listTo_one {f : Nat → Bool} {m : Nat} (h0 : f 0 = true) (hm : 1 ≤ m) (h : ∀ x, x < m → f x = true → x = 0) : (listTo f m).length = 1 := by
  have e : listTo f m = listTo (fun x => decide (x = 0)) m := listTo_congr fun x hx => by
    cases hf : f x
    · symm; rw [decide_eq_false_iff_not]; rintro rfl; rw [h0] at hf; cases hf
    · rw [h x hx hf]; rfl
  rw [e]
  clear e h h0
  unfold listTo
  rw [List.length_map]
  obtain ⟨k, rfl⟩ : ∃ k, m = k + 1 := ⟨m - 1, by omega⟩
  rw [List.range_succ_eq_map, List.filter_cons]
  simp
/-- the group with an idempotent -/
def mgF (n : Int) (l : List Int) (e : Int) : List Int := if decide (e ∈ idemF n l) then thoseL n l (fun i => relK n.toNat (l.map Int.toNat) 4 i e.toNat) else []
/-- the facts that the law asks for -/
structure RegG (n : Int) (l : List Int) : Prop where
  ne : (idemF n l).length ≠ 0
  zero : (0 : Int) ∈ idemF n l
  le : (idemF n l).length ≤ (regularOfF n l).length
  few : ((regularOfF n l).length : Int) ≤ n
  reg : ∀ x ∈ idemF n l, x ∈ regularOfF n l
  self : ∀ x ∈ idemF n l, x ∈ mgF n l x
  units : mgF n l 0 = unitsOfF n l
/-- the facts of one of its groups -/
structure RegE (m : Nat) (ln : List Nat) (x : Nat) (G : List Int) : Prop where
  el : ∀ y ∈ G, ∃ j : Nat, y = (j : Int) ∧ j < m ∧ tm m ln x j = j
  prod : ∀ i j : Nat, (i : Int) ∈ G → (j : Int) ∈ G → ((tm m ln i j : Nat) : Int) ∈ G
  inv : ∀ i : Nat, (i : Int) ∈ G → ∃ j : Nat, (j : Int) ∈ G ∧ tm m ln i j = x
theorem TabG.forms {m : Nat} {ln : List Nat} (h : TabOk m ln) : idemF (m : Nat) (ln.map Int.ofNat) = listTo (idemB m ln) m ∧ regularOfF (m : Nat) (ln.map Int.ofNat) = listTo (isReg m ln) m ∧ unitsOfF (m : Nat) (ln.map Int.ofNat) = listTo (isUnit m ln) m ∧
    ∀ x : Nat, x < m → idemB m ln x = true → mgF (m : Nat) (ln.map Int.ofNat) (x : Nat) = listTo (fun i => relK m ln 4 i x) m := by
  have ht := TabG.tab ⟨ln, rfl, h⟩
  have e1 : idemF (m : Nat) (ln.map Int.ofNat) = listTo (idemB m ln) m := by
    unfold idemF; rw [thoseL_yes ht, map_toNat]; rfl
  refine ⟨e1, by unfold regularOfF; rw [thoseL_yes ht, map_toNat]; rfl, by unfold unitsOfF; rw [thoseL_yes ht, map_toNat]; rfl, fun x hx hi => ?_⟩
  unfold mgF
  rw [e1, decide_eq_true (listTo_at.2 ⟨hx, hi⟩), if_pos rfl, thoseL_yes ht, map_toNat]
  rfl
theorem TabG.reg {m : Nat} {l : List Int} (h : TabG m l) : RegG (m : Nat) l := by
  obtain ⟨ln, rfl, h⟩ := h
  obtain ⟨e1, e2, e3, e4⟩ := TabG.forms h
  have h0 : (0 : Int) ∈ listTo (idemB m ln) m := listTo_at.2 ⟨h.lo, zero_idem h⟩
  refine ⟨?_, ?_, ?_, ?_, ?_, ?_, ?_⟩
  · rw [e1]; intro h1; rw [List.eq_nil_of_length_eq_zero h1] at h0; cases h0
  · rw [e1]; exact h0
  · rw [e1, e2]; exact listTo_mono fun x hx => idem_reg h hx
  · rw [e2]; exact Int.ofNat_le.2 (listTo_len _ _)
  · rw [e1, e2]
    intro x hx
    obtain ⟨j, rfl, hj, hi⟩ := (listTo_mem _ _ _).1 hx
    exact listTo_at.2 ⟨hj, idem_reg h hj hi⟩
  · rw [e1]
    intro x hx
    obtain ⟨j, rfl, hj, hi⟩ := (listTo_mem _ _ _).1 hx
    rw [e4 j hj hi]
    exact listTo_at.2 ⟨hj, relK_refl _ _ _ _⟩
  · rw [e3]
    have := e4 0 h.lo (zero_idem h)
    rw [show ((0 : Nat) : Int) = 0 from rfl] at this
    rw [this]
    exact listTo_congr fun x hx => unit_rel h hx
theorem TabG.el {m : Nat} {ln : List Nat} (h : TabOk m ln) {x : Int} (hx : x ∈ idemF (m : Nat) (ln.map Int.ofNat)) : ∃ j : Nat, x = (j : Int) ∧ j < m ∧ RegE m ln j (mgF (m : Nat) (ln.map Int.ofNat) x) := by
  obtain ⟨e1, e2, e3, e4⟩ := TabG.forms h
  rw [e1] at hx
  obtain ⟨j, rfl, hj, hi⟩ := (listTo_mem _ _ _).1 hx
  refine ⟨j, rfl, hj, ?_⟩
  rw [e4 j hj hi]
  have hee : tm m ln j j = j := by simpa [idemB] using hi
  refine ⟨fun y hy => ?_, fun i k hi hk => ?_, fun i hi => ?_⟩
  · obtain ⟨k, rfl, hk, hr⟩ := (listTo_mem _ _ _).1 hy
    exact ⟨k, rfl, hk, (rel_unit h hj hee hk hr).1⟩
  · obtain ⟨h1, h2⟩ := listTo_at.1 hi
    obtain ⟨h3, h4⟩ := listTo_at.1 hk
    exact listTo_at.2 ⟨h.tm_lt h1 h3, rel_prod h hj hee h1 h3 h2 h4⟩
  · obtain ⟨h1, h2⟩ := listTo_at.1 hi
    obtain ⟨z, hz, h3, h4⟩ := rel_inv h hj hee h1 h2
    exact ⟨z, listTo_at.2 ⟨hz, h3⟩, h4⟩
theorem TabG.grp {m : Nat} {l : List Int} (h : TabG m l) : decide (((unitsOfF (m : Nat) l).length : Int) = (m : Nat)) = (decide ((idemF (m : Nat) l).length = 1) && decide (((unitsOfF (m : Nat) l).length : Int) = (m : Nat))) := by
  obtain ⟨ln, rfl, h⟩ := h
  obtain ⟨e1, e2, e3, e4⟩ := TabG.forms h
  rw [e1, e3]
  cases hu : decide (((listTo (isUnit m ln) m).length : Int) = (m : Nat))
  · simp
  · have h1 : (listTo (isUnit m ln) m).length = m := Int.ofNat.inj (of_decide_eq_true hu)
    have h2 := listTo_one (f := idemB m ln) (m := m) (zero_idem h) h.lo fun x hx hi => idem_unit h hx hi (listTo_all h1 hx)
    rw [decide_eq_true h2]
    rfl
end Go.Proofs.YtdhaebbfiaddnaaGreatDoor
