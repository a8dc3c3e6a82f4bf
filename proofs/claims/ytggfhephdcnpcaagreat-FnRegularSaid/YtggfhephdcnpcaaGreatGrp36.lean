/-
  Sorting and collecting a list of integers of the call's own.
-/
import Derived.Test.YtggfhephdcnpcaaGreatGrp35
import Derived.Test.YtggfhephdcnpcaaGreatGrp02
import Derived.Test.YtggfhephdcnpcaaGreatGrp07
import Derived.Test.YtggfhephdcnpcaaGreatGrp03
import Derived.Sort.OwnSortedInts
namespace Go.Proofs.YtggfhephdcnpcaaGreat
open Go.RowKit
set_option linter.unusedVariables false
/-- x is a product of i and one of the first c elements -/
def idR (m : Nat) (ln : List Nat) (i c x : Nat) : Bool := (List.range c).any fun y => decide (tm m ln i y = x)
def idL (m : Nat) (ln : List Nat) (i c x : Nat) : Bool := (List.range c).any fun y => decide (tm m ln y i = x)
def idI (m : Nat) (ln : List Nat) (i y d x : Nat) : Bool := (List.range d).any fun z => decide (tm m ln (tm m ln y i) z = x)
def idB (m : Nat) (ln : List Nat) (i c x : Nat) : Bool := (List.range c).any fun y => idI m ln i y m x
def idBI (m : Nat) (ln : List Nat) (i c d x : Nat) : Bool := idB m ln i c x || idI m ln i c d x
/-- x lies in the ideal of i: of kind 1, 2, or any other -/
def inId (m : Nat) (ln : List Nat) (kind : Int) (i x : Nat) : Bool := if kind = 1 then idR m ln i m x else if kind = 2 then idL m ln i m x else idB m ln i m x
section
variable {m : Nat} {ln : List Nat}
theorem any_succ (p : Nat → Bool) (c : Nat) : (List.range (c + 1)).any p = ((List.range c).any p || p c) := by simp [List.range_succ]
theorem idR_zero (i x : Nat) : idR m ln i 0 x = false := rfl
theorem idL_zero (i x : Nat) : idL m ln i 0 x = false := rfl
theorem idB_zero (i x : Nat) : idB m ln i 0 x = false := rfl
theorem idBI_zero (i c x : Nat) : idBI m ln i c 0 x = idB m ln i c x := by simp [idBI, idI]
theorem idR_succ (i c x : Nat) : (if x = tm m ln i c then true else idR m ln i c x) = idR m ln i (c + 1) x := by
  unfold idR; rw [any_succ]
  by_cases h : x = tm m ln i c
  · subst h; simp
  · have : ¬ tm m ln i c = x := fun e => h e.symm
    simp [h, this]
theorem idL_succ (i c x : Nat) : (if x = tm m ln c i then true else idL m ln i c x) = idL m ln i (c + 1) x := by
  unfold idL; rw [any_succ]
  by_cases h : x = tm m ln c i
  · subst h; simp
  · have : ¬ tm m ln c i = x := fun e => h e.symm
    simp [h, this]
theorem idBI_succ (i c d x : Nat) : (if x = tm m ln (tm m ln c i) d then true else idBI m ln i c d x) = idBI m ln i c (d + 1) x := by
  unfold idBI idI; rw [any_succ]
  by_cases h : x = tm m ln (tm m ln c i) d
  · subst h; simp
  · have : ¬ tm m ln (tm m ln c i) d = x := fun e => h e.symm
    simp [h, this]
theorem idBI_full (i c x : Nat) : idBI m ln i c m x = idB m ln i (c + 1) x := by
  unfold idBI idB; rw [any_succ]
theorem inId_1 (i x : Nat) : inId m ln 1 i x = idR m ln i m x := rfl
theorem inId_2 (i x : Nat) : inId m ln 2 i x = idL m ln i m x := rfl
theorem inId_3 {kind : Int} (h1 : kind ≠ 1) (h2 : kind ≠ 2) (i x : Nat) : inId m ln kind i x = idB m ln i m x := by unfold inId; rw [if_neg h1, if_neg h2]
/-- the elements of an ideal -/
def idLs (m : Nat) (ln : List Nat) (kind : Int) (i : Nat) : List Int := listTo (inId m ln kind i) m
theorem idLs_len (kind : Int) (i : Nat) : (idLs m ln kind i).length ≤ m := listTo_len _ _
theorem idLs_nn {kind : Int} {i : Nat} {x : Int} (h : x ∈ idLs m ln kind i) : 0 ≤ x := by
  obtain ⟨j, rfl, _⟩ := (listTo_mem _ _ _).1 h
  omega
/-- the products that the program lists -/
def prR (m : Nat) (ln : List Nat) (i c : Nat) : List Int := (List.range c).map fun y => ((tm m ln i y : Nat) : Int)
def prL (m : Nat) (ln : List Nat) (i c : Nat) : List Int := (List.range c).map fun y => ((tm m ln y i : Nat) : Int)
def prI (m : Nat) (ln : List Nat) (i y d : Nat) : List Int := (List.range d).map fun z => ((tm m ln (tm m ln y i) z : Nat) : Int)
def prB (m : Nat) (ln : List Nat) (i c d : Nat) : List Int := ((List.range c).flatMap fun y => prI m ln i y m) ++ prI m ln i c d
theorem prR_succ (i c : Nat) : prR m ln i (c + 1) = prR m ln i c ++ [((tm m ln i c : Nat) : Int)] := by simp [prR, List.range_succ]
theorem prL_succ (i c : Nat) : prL m ln i (c + 1) = prL m ln i c ++ [((tm m ln c i : Nat) : Int)] := by simp [prL, List.range_succ]
theorem prB_succ (i c d : Nat) : prB m ln i c (d + 1) = prB m ln i c d ++ [((tm m ln (tm m ln c i) d : Nat) : Int)] := by simp [prB, prI, List.range_succ]
theorem prB_full (i c : Nat) : prB m ln i c m = prB m ln i (c + 1) 0 := by simp [prB, prI, List.range_succ]
theorem prR_len (i c : Nat) : (prR m ln i c).length = c := by simp [prR]
theorem prL_len (i c : Nat) : (prL m ln i c).length = c := by simp [prL]
theorem prB_len (i c d : Nat) : (prB m ln i c d).length = c * m + d := by
  unfold prB
  rw [List.length_append]
  have h : ∀ n, ((List.range n).flatMap fun y => prI m ln i y m).length = n * m := fun n => by
    induction n with
    | zero => simp
    | succ n ih => rw [List.range_succ, List.flatMap_append, List.length_append, ih, Nat.succ_mul]; simp [prI]
  rw [h]; simp [prI]
theorem collL_R (hT : Tb m ln) {i : Nat} (hi : i < m) : collL (prR m ln i m) = idLs m ln 1 i := by
  refine collL_eq (fun x hx => ?_) (fun j hj => ?_)
  · obtain ⟨y, hy, rfl⟩ := List.mem_map.1 hx
    exact ⟨_, rfl, hT.tm_lt hi (List.mem_range.1 hy)⟩
  · rw [inId_1]
    unfold idR prR
    rw [List.any_eq_true, List.mem_map]
    constructor
    · rintro ⟨y, hy, h⟩; exact ⟨y, hy, by have := of_decide_eq_true h; omega⟩
    · rintro ⟨y, hy, h⟩; exact ⟨y, hy, decide_eq_true (by omega)⟩
theorem collL_L (hT : Tb m ln) {i : Nat} (hi : i < m) : collL (prL m ln i m) = idLs m ln 2 i := by
  refine collL_eq (fun x hx => ?_) (fun j hj => ?_)
  · obtain ⟨y, hy, rfl⟩ := List.mem_map.1 hx
    exact ⟨_, rfl, hT.tm_lt (List.mem_range.1 hy) hi⟩
  · rw [inId_2]
    unfold idL prL
    rw [List.any_eq_true, List.mem_map]
    constructor
    · rintro ⟨y, hy, h⟩; exact ⟨y, hy, by have := of_decide_eq_true h; omega⟩
    · rintro ⟨y, hy, h⟩; exact ⟨y, hy, decide_eq_true (by omega)⟩
theorem collL_B (hT : Tb m ln) {kind : Int} (h1 : kind ≠ 1) (h2 : kind ≠ 2) {i : Nat} (hi : i < m) : collL (prB m ln i m 0) = idLs m ln kind i := by
  refine collL_eq (fun x hx => ?_) (fun j hj => ?_)
  · unfold prB at hx
    simp only [prI, List.range_zero, List.map_nil, List.append_nil, List.mem_flatMap, List.mem_map, List.mem_range] at hx
    obtain ⟨y, hy, z, hz, rfl⟩ := hx
    exact ⟨_, rfl, hT.tm_lt (hT.tm_lt hy hi) hz⟩
  · rw [inId_3 h1 h2]
    unfold idB prB idI
    simp only [prI, List.range_zero, List.map_nil, List.append_nil, List.mem_flatMap, List.mem_map, List.any_eq_true, decide_eq_true_eq]
    constructor
    · rintro ⟨y, hy, z, hz, h⟩; exact ⟨y, hy, z, hz, by omega⟩
    · rintro ⟨y, hy, z, hz, h⟩; exact ⟨y, hy, z, hz, by omega⟩
end
/-- two elements are related -/
def relK (m : Nat) (ln : List Nat) (kind : Int) (i k : Nat) : Bool :=
  if kind = 4 then decide (idLs m ln 1 i = idLs m ln 1 k) && decide (idLs m ln 2 i = idLs m ln 2 k) else decide (idLs m ln kind i = idLs m ln kind k)
/-- what the program compares -/
def keyK (m : Nat) (ln : List Nat) (kind : Int) (i : Nat) : List Int := if kind = 4 then idLs m ln 1 i ++ [-1] ++ idLs m ln 2 i else idLs m ln kind i
theorem cut_eq : ∀ {a b c d : List Int}, (∀ x ∈ a, 0 ≤ x) → (∀ x ∈ c, 0 ≤ x) → a ++ -1 :: b = c ++ -1 :: d → a = c ∧ b = d
  | [], b, [], d, _, _, h => ⟨rfl, by simpa using h⟩
  | [], b, y :: c, d, _, hc, h => by
    simp only [List.nil_append, List.cons_append, List.cons.injEq] at h
    have := hc y (by simp); omega
  | x :: a, b, [], d, ha, _, h => by
    simp only [List.nil_append, List.cons_append, List.cons.injEq] at h
    have := ha x (by simp); omega
  | x :: a, b, y :: c, d, ha, hc, h => by
    simp only [List.cons_append, List.cons.injEq] at h
    obtain ⟨rfl, h⟩ := h
    obtain ⟨rfl, rfl⟩ := cut_eq (fun z hz => ha z (by simp [hz])) (fun z hz => hc z (by simp [hz])) h
    exact ⟨rfl, rfl⟩
theorem relK_key (m : Nat) (ln : List Nat) (kind : Int) (i k : Nat) : relK m ln kind i k = decide (keyK m ln kind i = keyK m ln kind k) := by
  unfold relK keyK
  by_cases h : kind = 4
  · rw [if_pos h, if_pos h, if_pos h, Bool.eq_iff_iff]
    simp only [Bool.and_eq_true, decide_eq_true_eq]
    constructor
    · rintro ⟨h1, h2⟩; rw [h1, h2]
    · intro h3
      simp only [List.append_assoc, List.cons_append, List.nil_append] at h3
      exact cut_eq (fun x hx => idLs_nn hx) (fun x hx => idLs_nn hx) h3
  · rw [if_neg h, if_neg h, if_neg h]
theorem relK_refl (m : Nat) (ln : List Nat) (kind : Int) (i : Nat) : relK m ln kind i i = true := by rw [relK_key]; simp
theorem relK_fun {m : Nat} {ln : List Nat} {kind : Int} {i k : Nat} (h : relK m ln kind i k = true) : relK m ln kind i = relK m ln kind k := by
  rw [relK_key] at h
  have := of_decide_eq_true h
  funext j
  rw [relK_key, relK_key, this]
theorem relK_four (m : Nat) (ln : List Nat) (i k : Nat) : relK m ln 4 i k = (relK m ln 1 i k && relK m ln 2 i k) := rfl
theorem relK_not4 {m : Nat} {ln : List Nat} {kind : Int} (h : kind ≠ 4) (i k : Nat) : relK m ln kind i k = decide (idLs m ln kind i = idLs m ln kind k) := by unfold relK; rw [if_neg h]
/-- the number that the reference gives, when it has come down to j -/
def clsV (p : Nat → Nat → Bool) (i j : Nat) : Int := match ((List.range i).drop j).find? (p i) with | some k => nthZ (numO p i) k | none => ((numF p i).length : Int)
theorem clsV_top (p : Nat → Nat → Bool) (i : Nat) : clsV p i i = ((numF p i).length : Int) := by
  unfold clsV
  rw [List.drop_eq_nil_of_le (by simp)]
  rfl
theorem clsV_down {p : Nat → Nat → Bool} {i j : Nat} (h : j < i) : clsV p i j = if p i j = true then nthZ (numO p i) j else clsV p i (j + 1) := by
  unfold clsV
  rw [List.drop_eq_getElem_cons (by simpa using h)]
  simp only [List.getElem_range, List.find?_cons]
  cases p i j <;> simp
theorem numI_lt (p : Nat → Nat → Bool) (F : List Nat) (j : Nat) : numI p F j < (F.length : Int) := by
  unfold numI
  cases h : F.findIdx? (p j)
  · simp; omega
  · rename_i i
    rw [List.findIdx?_eq_some_iff_getElem] at h
    obtain ⟨hi, _⟩ := h
    simp only
    omega
theorem numV_nn (p : Nat → Nat → Bool) (F : List Nat) (j : Nat) : 0 ≤ numV p F j := by
  unfold numV
  split
  · omega
  · omega
theorem numO_nth {p : Nat → Nat → Bool} {c j : Nat} (h : j < c) : nthZ (numO p c) j = numV p (numF p j) j := by
  rw [nthZ_lt (by rw [numO_len]; exact h)]
  simp [numO]
theorem clsV_zero {p : Nat → Nat → Bool} (hr : ∀ i, p i i = true) (hf : ∀ i k, p i k = true → p i = p k) (i : Nat) : clsV p i 0 = numV p (numF p i) i := by
  unfold clsV
  rw [List.drop_zero]
  cases h : (List.range i).find? (p i)
  · simp only
    rw [List.find?_eq_none] at h
    have h2 : (numF p i).any (p i) = false := by
      rw [List.any_eq_false]
      intro x hx
      exact h x (List.mem_range.2 (numF_lt p i x hx))
    rw [numV_no ((numI_neg _ _ _).2 h2)]
  · rename_i k
    simp only
    have h1 := List.find?_some h
    have h2 := List.mem_range.1 (List.mem_of_find?_eq_some h)
    rw [numO_nth h2, ← numI_full (m := i) (fun i _ => hr i) h2]
    have h3 : numI p (numF p i) k = numI p (numF p i) i := by unfold numI; rw [hf i k h1]
    rw [h3]
    have h4 : 0 ≤ numI p (numF p i) i := by
      rw [← h3, numI_full (m := i) (fun i _ => hr i) h2]
      exact numV_nn _ _ _
    rw [numV_yes (by omega)]
theorem numF_count {p : Nat → Nat → Bool} (i : Nat) : ((numF p (i + 1)).length : Int) = if numV p (numF p i) i = ((numF p i).length : Int) then ((numF p i).length : Int) + 1 else ((numF p i).length : Int) := by
  by_cases h : numI p (numF p i) i < 0
  · rw [numV_no h, if_pos rfl, numF_no h]; simp
  · rw [numV_yes h, numF_yes h]
    have := numI_lt p (numF p i) i
    rw [if_neg (by omega)]
/-- how many classes the numbers of classes tell of -/
def cntF (l : List Int) : Int := l.foldl (fun n x => max n (x + 1)) 0
theorem cntF_step (l : List Int) (x : Int) : cntF (l ++ [x]) = max (cntF l) (x + 1) := by simp [cntF]
theorem cntF_ge : ∀ (l : List Int) (n : Int), n ≤ l.foldl (fun n x => max n (x + 1)) n ∧ ∀ x ∈ l, x + 1 ≤ l.foldl (fun n x => max n (x + 1)) n
  | [], n => ⟨Int.le_refl _, fun x hx => by cases hx⟩
  | y :: l, n => by
    have := cntF_ge l (max n (y + 1))
    simp only [List.foldl_cons]
    refine ⟨by omega, fun x hx => ?_⟩
    rcases List.mem_cons.1 hx with rfl | hx
    · omega
    · exact this.2 x hx
theorem cntF_le : ∀ (l : List Int) (n M : Int), n ≤ M + 1 → (∀ x ∈ l, x ≤ M) → l.foldl (fun n x => max n (x + 1)) n ≤ M + 1
  | [], n, M, h, _ => h
  | y :: l, n, M, h, hl => by
    simp only [List.foldl_cons]
    exact cntF_le l _ M (by have := hl y (by simp); omega) (fun x hx => hl x (by simp [hx]))
theorem cntF_max {l : List Int} {M : Int} (h1 : M ∈ l) (h2 : ∀ x ∈ l, x ≤ M) (h3 : 0 ≤ M) : cntF l = M + 1 := by
  have a := (cntF_ge l 0).2 M h1
  have b := cntF_le l 0 M (by omega) h2
  unfold cntF
  omega
theorem cntF_few {l : List Int} {n : Nat} (h : ∀ x ∈ l, x < (n : Int)) : 0 ≤ cntF l ∧ cntF l ≤ (n : Int) := by
  have a := (cntF_ge l 0).1
  have b := cntF_le l 0 ((n : Int) - 1) (by omega) (fun x hx => by have := h x hx; omega)
  unfold cntF
  omega
theorem numV_le {p : Nat → Nat → Bool} {F : List Nat} {j : Nat} : numV p F j ≤ (F.length : Int) := by
  unfold numV
  split
  · omega
  · have := numI_lt p F j; omega
theorem numO_small {p : Nat → Nat → Bool} {c : Nat} {x : Int} (h : x ∈ numO p c) : 0 ≤ x ∧ x < (c : Int) := by
  unfold numO at h
  obtain ⟨j, hj, rfl⟩ := List.mem_map.1 h
  have h1 := List.mem_range.1 hj
  have h2 := numF_len p j
  have h3 := numV_le (p := p) (F := numF p j) (j := j)
  exact ⟨numV_nn _ _ _, by omega⟩
/-- ClassesOf and CountClasses as functions of plain data -/
def clzF (n : Int) (l : List Int) (kind : Int) : List Int := if tabB n l && inB kind 1 4 then numO (relK n.toNat (l.map Int.toNat) kind) n.toNat else []
theorem clzF_no1 {n : Int} {l : List Int} {kind : Int} (h : tabB n l = false) : clzF n l kind = [] := by simp [clzF, h]
theorem clzF_no2 {n : Int} {l : List Int} {kind : Int} (h : inB kind 1 4 = false) : clzF n l kind = [] := by simp [clzF, h]
theorem clzF_yes {m : Nat} {ln : List Nat} {kind : Int} (h : tabB (m : Nat) (ln.map Int.ofNat) = true) (h2 : inB kind 1 4 = true) : clzF (m : Nat) (ln.map Int.ofNat) kind = numO (relK m ln kind) m := by
  unfold clzF
  rw [h, h2, map_toNat']
  rfl
theorem clzF_small {n : Int} {l : List Int} {kind : Int} {x : Int} (h : x ∈ clzF n l kind) : 0 ≤ x ∧ x < 40 := by
  unfold clzF at h
  cases ht : tabB n l
  · rw [ht] at h; simp at h
  · obtain ⟨m, ln, rfl, rfl, hT⟩ := tabOk_out ht
    have := hT.hi
    split at h
    · have := numO_small h; simp at this; omega
    · cases h
theorem clzF_len (n : Int) (l : List Int) (kind : Int) : (clzF n l kind).length ≤ 40 := by
  unfold clzF
  cases ht : tabB n l
  · simp
  · obtain ⟨m, ln, rfl, rfl, hT⟩ := tabOk_out ht
    have := hT.hi
    split
    · rw [numO_len]; simpa using this
    · simp
end Go.Proofs.YtggfhephdcnpcaaGreat
namespace Go.Proofs.YtggfhephdcnpcaaGreat
open Go.RowKit Go.Sort
set_option linter.unusedVariables false
theorem owns_block_of {w : World} {base g cap n : Nat} {T : TypeId} {xs : List Value} (h : w.ownsRow base T 1 (.slice (some ⟨g, 0, none⟩) n cap) n xs) : ∃ cur, base ≤ g ∧ w.heap[g]? = some (.cells cur T (0, 0)) ∧ n ≤ cap ∧ cap ≤ maxLen ∧ cur.size = cap * 1 ∧ cur.toList.take n = xs := by
  rcases h.2 with ⟨hv, _⟩ | ⟨g', cap', cur, hv, hb, hg, hn, hc, hs, ht⟩
  · cases hv
  · simp only [Value.slice.injEq, Option.some.injEq, Addr.mk.injEq, and_true, true_and] at hv
    obtain ⟨rfl, rfl⟩ := hv
    exact ⟨cur, hb, hg, hn, hc, hs, by simpa using ht⟩
theorem owns_shrink {w : World} {base g cap n k : Nat} {T : TypeId} {xs : List Value} (h : w.ownsRow base T 1 (.slice (some ⟨g, 0, none⟩) n cap) n xs) (hk : k ≤ n) : w.ownsRow base T 1 (.slice (some ⟨g, 0, none⟩) k cap) k (xs.take k) := by
  have hl := h.1
  obtain ⟨cur, h1, h2, h3, h4, h5, h6⟩ := owns_block_of h
  refine ⟨by rw [List.length_take]; omega, .inr ⟨g, cap, cur, rfl, h1, h2, by omega, h4, h5, ?_⟩⟩
  rw [← h6, List.take_take]
  congr 1; omega
theorem grow_none (w : World) : grow w #[] = w := by simp [grow]
theorem sortOwn_any (l : List Int) (base g cap : Nat) (w : World) (h : w.ownsRow base 3 1 (.slice (some ⟨g, 0, none⟩) l.length cap) l.length (intVals l)) (hlen : l.length ≤ 2 ^ 47) :
    Calls Tryz.prog 74 #[.slice (some ⟨g, 0, none⟩) l.length cap] w fun e w' => e = .returned (.tuple #[]) ∧ w'.ownsRow base 3 1 (.slice (some ⟨g, 0, none⟩) l.length cap) l.length (intVals (sortL l)) ∧ w.grownBy w' (some g) := by
  obtain ⟨cur, h1, h2, h3, h4, h5, h6⟩ := owns_block_of h
  refine (Tryz.slices_Sort_int g 0 cap l w (holds_of_blockI h2 h6) (Array.getElem?_eq_some_iff.1 h2).1 (by omega)).mono ?_
  rintro e w' ⟨rfl, n, os, rfl⟩
  exact ⟨rfl, ownsRow_sortedI (by simp) h1 h2 h3 h4 h5, grownBy_sortedI _⟩
theorem compactOwn_any (l : List Int) (base g cap : Nat) (w : World) (h : w.ownsRow base 3 1 (.slice (some ⟨g, 0, none⟩) l.length cap) l.length (intVals l)) (hlen : l.length ≤ 2 ^ 47) :
    Calls Tryz.prog 94 #[.slice (some ⟨g, 0, none⟩) l.length cap] w fun e w' => e = .returned (.slice (some ⟨g, 0, none⟩) (Lib.compact l).length cap) ∧ w'.ownsRow base 3 1 (.slice (some ⟨g, 0, none⟩) (Lib.compact l).length cap) (Lib.compact l).length (intVals (Lib.compact l)) ∧ w.grownBy w' (some g) := by
  obtain ⟨cur, h1, h2, h3, h4, h5, h6⟩ := owns_block_of h
  have hle : (Lib.compact l).length ≤ l.length := by
    unfold Lib.compact Lib.compactUpTo
    rw [List.length_map]
    exact Nat.le_trans (List.length_filter_le _ _) (by simp)
  refine (Tryz.slices_Compact_int g 0 cap l w (holds_of_blockI h2 h6) (by omega) h3).mono ?_
  rintro e w' ⟨rfl, q, rfl⟩
  have k1 := ownsRow_sortedI (n := q) (os := #[]) (ss := l) (ts := Lib.compact l ++ List.replicate (l.length - (Lib.compact l).length) 0) (by simp; omega) h1 h2 h3 h4 h5
  have k2 := grownBy_sortedI (w := w) (g := g) (n := q) (os := #[]) (Lib.compact l ++ List.replicate (l.length - (Lib.compact l).length) 0).toArray
  rw [grow_none] at k1 k2
  refine ⟨rfl, ?_, k2⟩
  have k3 := owns_shrink k1 hle
  rw [List.map_append, List.take_left' (by simp)] at k3
  exact k3
set_option maxHeartbeats 800000 in
theorem collected_any (l : List Int) (a : Option Addr) (cap : Nat) (w : World) (hl : IntsIn w a l) (h0 : 0 < l.length) (hlen : l.length ≤ 1000000) :
    Calls Tryz.prog 69 #[.slice a l.length cap] w (RetSl 3 1 (collL l).length (intVals (collL l)) w) := by
  have HC : Hid (∀ W, Below w.heap.size w W → Calls Tryz.prog 93 #[.slice a l.length cap] W fun e W' => ∃ v', e = .returned v' ∧ W'.ownsRow W.heap.size 3 1 v' l.length (intVals l) ∧ v' ≠ .slice none 0 0 ∧ Below W.heap.size W W') := fun W hW => by
    obtain ⟨b, off, rfl, _, hc⟩ := (hl.later hW).cell h0
    have := Tryz.slices_Clone_int b off l.length cap l W (Nat.le_refl _) (by omega) (fun j hj => by have := hc j hj; unfold nthZ at this; exact this)
    rw [List.take_length] at this
    exact this
  clear hl
  go_enter Tryz.func69, Tryz.ntmps69
  go_wp2_with fail
  refine (HC.out _ (Below.refl _ _)).mono ?_
  rintro e w1 ⟨v1, rfl, ho1, hne, hb1⟩
  obtain ⟨g, cap1, rfl⟩ : ∃ g cap1, v1 = .slice (some ⟨g, 0, none⟩) l.length cap1 := by
    rcases ho1.2 with ⟨hv, _⟩ | ⟨g, cap', cur, hv, _⟩
    · exact absurd hv hne
    · exact ⟨g, cap', hv⟩
  have HO := Lib.hid ho1
  have HB := Lib.hid hb1
  clear ho1 hb1 hne HC
  go_wp2_with fail
  refine (sortOwn_any l _ g cap1 _ HO.out (by omega)).mono ?_
  rintro e w2 ⟨rfl, ho2, hg2⟩
  have HO2 : Hid (w2.ownsRow w.heap.size 3 1 (.slice (some ⟨g, 0, none⟩) (sortL l).length cap1) (sortL l).length (intVals (sortL l))) := by rw [sortL_len]; exact ho2
  have HB2 : Hid (Below w.heap.size w w2) := HB.out.grown hg2 HB.out.size (fun k hk => (HO.out.lt k hk).1)
  clear ho2 hg2
  go_wp2_with fail
  have hC := compactOwn_any (sortL l) _ g cap1 w2 HO2.out (by rw [sortL_len]; omega)
  rw [sortL_len] at hC
  refine hC.mono ?_
  rintro e w3 ⟨rfl, ho3, hg3⟩
  have HB3 : Hid (Below w.heap.size w w3) := HB2.out.grown hg3 HB2.out.size (fun k hk => (HO2.out.lt k hk).1)
  have HO3 := Lib.hid ho3
  clear ho3 hg3 hC
  go_wp2_with fail
  go_ret
  exact ⟨_, _, rfl, HO3.out, HB3.out⟩
end Go.Proofs.YtggfhephdcnpcaaGreat
