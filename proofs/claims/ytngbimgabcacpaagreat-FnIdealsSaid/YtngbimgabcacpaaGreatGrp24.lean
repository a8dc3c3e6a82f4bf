/-
  The keys by which the program compares elements: a captured slice of slices that grows.
-/
import Derived.Test.YtngbimgabcacpaaGreatGrp23
import Derived.Test.YtngbimgabcacpaaGreatGrp01
import Derived.Test.YtngbimgabcacpaaGreatGrp05
import Derived.Test.YtngbimgabcacpaaGreatGrp02
import Derived.Sort.OwnSortedInts
import Derived.Deep.RegionHeld3
import Derived.Test.YtngbimgabcacpaaGreatGrp13
namespace Go.Proofs.YtngbimgabcacpaaGreat
open Go.RowKit
set_option linter.unusedVariables false
/-- x is a product of i and one of the first c elements -/
def idR (m : Nat) (ln : List Nat) (i c x : Nat) : Bool := (List.range c).any fun y => decide (tm m ln i y = x)
def idL (m : Nat) (ln : List Nat) (i c x : Nat) : Bool := (List.range c).any fun y => decide (tm m ln y i = x)
def idI (m : Nat) (ln : List Nat) (i y d x : Nat) : Bool := (List.range d).any fun z => decide (tm m ln (tm m ln y i) z = x)
def idB (m : Nat) (ln : List Nat) (i c x : Nat) : Bool := (List.range c).any fun y => idI m ln i y m x
def idBI (m : Nat) (ln : List Nat) (i c d x : Nat) : Bool := idB m ln i c x || idI m ln i c d x
/-- x lies in the ideal of i: of kind 1, 2, or any other -/
def inId (m : Nat) (ln : List Nat) (kind : Int) (i x : Nat) : Bool := if kind = 1 then idR m ln i m x else if kind = 2 then idL m ln i m x else idB m ln i m x
section
variable {m : Nat} {ln : List Nat}
theorem any_succ (p : Nat → Bool) (c : Nat) : (List.range (c + 1)).any p = ((List.range c).any p || p c) := by simp [List.range_succ]
theorem idR_zero (i x : Nat) : idR m ln i 0 x = false := rfl
theorem idL_zero (i x : Nat) : idL m ln i 0 x = false := rfl
theorem idB_zero (i x : Nat) : idB m ln i 0 x = false := rfl
theorem idBI_zero (i c x : Nat) : idBI m ln i c 0 x = idB m ln i c x := by simp [idBI, idI]
theorem idR_succ (i c x : Nat) : (if x = tm m ln i c then true else idR m ln i c x) = idR m ln i (c + 1) x := by
  unfold idR; rw [any_succ]
  by_cases h : x = tm m ln i c
  · subst h; simp
  · have : ¬ tm m ln i c = x := fun e => h e.symm
    simp [h, this]
theorem idL_succ (i c x : Nat) : (if x = tm m ln c i then true else idL m ln i c x) = idL m ln i (c + 1) x := by
  unfold idL; rw [any_succ]
  by_cases h : x = tm m ln c i
  · subst h; simp
  · have : ¬ tm m ln c i = x := fun e => h e.symm
    simp [h, this]
theorem idBI_succ (i c d x : Nat) : (if x = tm m ln (tm m ln c i) d then true else idBI m ln i c d x) = idBI m ln i c (d + 1) x := by
  unfold idBI idI; rw [any_succ]
  by_cases h : x = tm m ln (tm m ln c i) d
  · subst h; simp
  · have : ¬ tm m ln (tm m ln c i) d = x := fun e => h e.symm
    simp [h, this]
theorem idBI_full (i c x : Nat) : idBI m ln i c m x = idB m ln i (c + 1) x := by
  unfold idBI idB; rw [any_succ]
theorem inId_1 (i x : Nat) : inId m ln 1 i x = idR m ln i m x := rfl
theorem inId_2 (i x : Nat) : inId m ln 2 i x = idL m ln i m x := rfl
theorem inId_3 {kind : Int} (h1 : kind ≠ 1) (h2 : kind ≠ 2) (i x : Nat) : inId m ln kind i x = idB m ln i m x := by unfold inId; rw [if_neg h1, if_neg h2]
/-- the elements of an ideal -/
def idLs (m : Nat) (ln : List Nat) (kind : Int) (i : Nat) : List Int := listTo (inId m ln kind i) m
theorem idLs_len (kind : Int) (i : Nat) : (idLs m ln kind i).length ≤ m := listTo_len _ _
theorem idLs_nn {kind : Int} {i : Nat} {x : Int} (h : x ∈ idLs m ln kind i) : 0 ≤ x := by
  obtain ⟨j, rfl, _⟩ := (listTo_mem _ _ _).1 h
  omega
/-- the products that the program lists -/
def prR (m : Nat) (ln : List Nat) (i c : Nat) : List Int := (List.range c).map fun y => ((tm m ln i y : Nat) : Int)
def prL (m : Nat) (ln : List Nat) (i c : Nat) : List Int := (List.range c).map fun y => ((tm m ln y i : Nat) : Int)
def prI (m : Nat) (ln : List Nat) (i y d : Nat) : List Int := (List.range d).map fun z => ((tm m ln (tm m ln y i) z : Nat) : Int)
def prB (m : Nat) (ln : List Nat) (i c d : Nat) : List Int := ((List.range c).flatMap fun y => prI m ln i y m) ++ prI m ln i c d
theorem prR_succ (i c : Nat) : prR m ln i (c + 1) = prR m ln i c ++ [((tm m ln i c : Nat) : Int)] := by simp [prR, List.range_succ]
theorem prL_succ (i c : Nat) : prL m ln i (c + 1) = prL m ln i c ++ [((tm m ln c i : Nat) : Int)] := by simp [prL, List.range_succ]
theorem prB_succ (i c d : Nat) : prB m ln i c (d + 1) = prB m ln i c d ++ [((tm m ln (tm m ln c i) d : Nat) : Int)] := by simp [prB, prI, List.range_succ]
theorem prB_full (i c : Nat) : prB m ln i c m = prB m ln i (c + 1) 0 := by simp [prB, prI, List.range_succ]
theorem prR_len (i c : Nat) : (prR m ln i c).length = c := by simp [prR]
theorem prL_len (i c : Nat) : (prL m ln i c).length = c := by simp [prL]
theorem prB_len (i c d : Nat) : (prB m ln i c d).length = c * m + d := by
  unfold prB
  rw [List.length_append]
  have h : ∀ n, ((List.range n).flatMap fun y => prI m ln i y m).length = n * m := fun n => by
    induction n with
    | zero => simp
    | succ n ih => rw [List.range_succ, List.flatMap_append, List.length_append, ih, Nat.succ_mul]; simp [prI]
  rw [h]; simp [prI]
theorem collL_R (hT : Tb m ln) {i : Nat} (hi : i < m) : collL (prR m ln i m) = idLs m ln 1 i := by
  refine collL_eq (fun x hx => ?_) (fun j hj => ?_)
  · obtain ⟨y, hy, rfl⟩ := List.mem_map.1 hx
    exact ⟨_, rfl, hT.tm_lt hi (List.mem_range.1 hy)⟩
  · rw [inId_1]
    unfold idR prR
    rw [List.any_eq_true, List.mem_map]
    constructor
    · rintro ⟨y, hy, h⟩; exact ⟨y, hy, by have := of_decide_eq_true h; omega⟩
    · rintro ⟨y, hy, h⟩; exact ⟨y, hy, decide_eq_true (by omega)⟩
theorem collL_L (hT : Tb m ln) {i : Nat} (hi : i < m) : collL (prL m ln i m) = idLs m ln 2 i := by
  refine collL_eq (fun x hx => ?_) (fun j hj => ?_)
  · obtain ⟨y, hy, rfl⟩ := List.mem_map.1 hx
    exact ⟨_, rfl, hT.tm_lt (List.mem_range.1 hy) hi⟩
  · rw [inId_2]
    unfold idL prL
    rw [List.any_eq_true, List.mem_map]
    constructor
    · rintro ⟨y, hy, h⟩; exact ⟨y, hy, by have := of_decide_eq_true h; omega⟩
    · rintro ⟨y, hy, h⟩; exact ⟨y, hy, decide_eq_true (by omega)⟩
theorem collL_B (hT : Tb m ln) {kind : Int} (h1 : kind ≠ 1) (h2 : kind ≠ 2) {i : Nat} (hi : i < m) : collL (prB m ln i m 0) = idLs m ln kind i := by
  refine collL_eq (fun x hx => ?_) (fun j hj => ?_)
  · unfold prB at hx
    simp only [prI, List.range_zero, List.map_nil, List.append_nil, List.mem_flatMap, List.mem_map, List.mem_range] at hx
    obtain ⟨y, hy, z, hz, rfl⟩ := hx
    exact ⟨_, rfl, hT.tm_lt (hT.tm_lt hy hi) hz⟩
  · rw [inId_3 h1 h2]
    unfold idB prB idI
    simp only [prI, List.range_zero, List.map_nil, List.append_nil, List.mem_flatMap, List.mem_map, List.any_eq_true, decide_eq_true_eq]
    constructor
    · rintro ⟨y, hy, z, hz, h⟩; exact ⟨y, hy, z, hz, by omega⟩
    · rintro ⟨y, hy, z, hz, h⟩; exact ⟨y, hy, z, hz, by omega⟩
end
/-- two elements are related -/
def relK (m : Nat) (ln : List Nat) (kind : Int) (i k : Nat) : Bool :=
  if kind = 4 then decide (idLs m ln 1 i = idLs m ln 1 k) && decide (idLs m ln 2 i = idLs m ln 2 k) else decide (idLs m ln kind i = idLs m ln kind k)
/-- what the program compares -/
def keyK (m : Nat) (ln : List Nat) (kind : Int) (i : Nat) : List Int := if kind = 4 then idLs m ln 1 i ++ [-1] ++ idLs m ln 2 i else idLs m ln kind i
theorem cut_eq : ∀ {a b c d : List Int}, (∀ x ∈ a, 0 ≤ x) → (∀ x ∈ c, 0 ≤ x) → a ++ -1 :: b = c ++ -1 :: d → a = c ∧ b = d
  | [], b, [], d, _, _, h => ⟨rfl, by simpa using h⟩
  | [], b, y :: c, d, _, hc, h => by
    simp only [List.nil_append, List.cons_append, List.cons.injEq] at h
    have := hc y (by simp); omega
  | x :: a, b, [], d, ha, _, h => by
    simp only [List.nil_append, List.cons_append, List.cons.injEq] at h
    have := ha x (by simp); omega
  | x :: a, b, y :: c, d, ha, hc, h => by
    simp only [List.cons_append, List.cons.injEq] at h
    obtain ⟨rfl, h⟩ := h
    obtain ⟨rfl, rfl⟩ := cut_eq (fun z hz => ha z (by simp [hz])) (fun z hz => hc z (by simp [hz])) h
    exact ⟨rfl, rfl⟩
theorem relK_key (m : Nat) (ln : List Nat) (kind : Int) (i k : Nat) : relK m ln kind i k = decide (keyK m ln kind i = keyK m ln kind k) := by
  unfold relK keyK
  by_cases h : kind = 4
  · rw [if_pos h, if_pos h, if_pos h, Bool.eq_iff_iff]
    simp only [Bool.and_eq_true, decide_eq_true_eq]
    constructor
    · rintro ⟨h1, h2⟩; rw [h1, h2]
    · intro h3
      simp only [List.append_assoc, List.cons_append, List.nil_append] at h3
      exact cut_eq (fun x hx => idLs_nn hx) (fun x hx => idLs_nn hx) h3
  · rw [if_neg h, if_neg h, if_neg h]
theorem relK_refl (m : Nat) (ln : List Nat) (kind : Int) (i : Nat) : relK m ln kind i i = true := by rw [relK_key]; simp
theorem relK_fun {m : Nat} {ln : List Nat} {kind : Int} {i k : Nat} (h : relK m ln kind i k = true) : relK m ln kind i = relK m ln kind k := by
  rw [relK_key] at h
  have := of_decide_eq_true h
  funext j
  rw [relK_key, relK_key, this]
theorem relK_four (m : Nat) (ln : List Nat) (i k : Nat) : relK m ln 4 i k = (relK m ln 1 i k && relK m ln 2 i k) := rfl
theorem relK_not4 {m : Nat} {ln : List Nat} {kind : Int} (h : kind ≠ 4) (i k : Nat) : relK m ln kind i k = decide (idLs m ln kind i = idLs m ln kind k) := by unfold relK; rw [if_neg h]
/-- the number that the reference gives, when it has come down to j -/
def clsV (p : Nat → Nat → Bool) (i j : Nat) : Int := match ((List.range i).drop j).find? (p i) with | some k => nthZ (numO p i) k | none => ((numF p i).length : Int)
theorem clsV_top (p : Nat → Nat → Bool) (i : Nat) : clsV p i i = ((numF p i).length : Int) := by
  unfold clsV
  rw [List.drop_eq_nil_of_le (by simp)]
  rfl
theorem clsV_down {p : Nat → Nat → Bool} {i j : Nat} (h : j < i) : clsV p i j = if p i j = true then nthZ (numO p i) j else clsV p i (j + 1) := by
  unfold clsV
  rw [List.drop_eq_getElem_cons (by simpa using h)]
  simp only [List.getElem_range, List.find?_cons]
  cases p i j <;> simp
theorem numI_lt (p : Nat → Nat → Bool) (F : List Nat) (j : Nat) : numI p F j < (F.length : Int) := by
  unfold numI
  cases h : F.findIdx? (p j)
  · simp; omega
  · rename_i i
    rw [List.findIdx?_eq_some_iff_getElem] at h
    obtain ⟨hi, _⟩ := h
    simp only
    omega
theorem numV_nn (p : Nat → Nat → Bool) (F : List Nat) (j : Nat) : 0 ≤ numV p F j := by
  unfold numV
  split
  · omega
  · omega
theorem numO_nth {p : Nat → Nat → Bool} {c j : Nat} (h : j < c) : nthZ (numO p c) j = numV p (numF p j) j := by
  rw [nthZ_lt (by rw [numO_len]; exact h)]
  simp [numO]
theorem clsV_zero {p : Nat → Nat → Bool} (hr : ∀ i, p i i = true) (hf : ∀ i k, p i k = true → p i = p k) (i : Nat) : clsV p i 0 = numV p (numF p i) i := by
  unfold clsV
  rw [List.drop_zero]
  cases h : (List.range i).find? (p i)
  · simp only
    rw [List.find?_eq_none] at h
    have h2 : (numF p i).any (p i) = false := by
      rw [List.any_eq_false]
      intro x hx
      exact h x (List.mem_range.2 (numF_lt p i x hx))
    rw [numV_no ((numI_neg _ _ _).2 h2)]
  · rename_i k
    simp only
    have h1 := List.find?_some h
    have h2 := List.mem_range.1 (List.mem_of_find?_eq_some h)
    rw [numO_nth h2, ← numI_full (m := i) (fun i _ => hr i) h2]
    have h3 : numI p (numF p i) k = numI p (numF p i) i := by unfold numI; rw [hf i k h1]
    rw [h3]
    have h4 : 0 ≤ numI p (numF p i) i := by
      rw [← h3, numI_full (m := i) (fun i _ => hr i) h2]
      exact numV_nn _ _ _
    rw [numV_yes (by omega)]
theorem numF_count {p : Nat → Nat → Bool} (i : Nat) : ((numF p (i + 1)).length : Int) = if numV p (numF p i) i = ((numF p i).length : Int) then ((numF p i).length : Int) + 1 else ((numF p i).length : Int) := by
  by_cases h : numI p (numF p i) i < 0
  · rw [numV_no h, if_pos rfl, numF_no h]; simp
  · rw [numV_yes h, numF_yes h]
    have := numI_lt p (numF p i) i
    rw [if_neg (by omega)]
/-- how many classes the numbers of classes tell of -/
def cntF (l : List Int) : Int := l.foldl (fun n x => max n (x + 1)) 0
theorem cntF_step (l : List Int) (x : Int) : cntF (l ++ [x]) = max (cntF l) (x + 1) := by simp [cntF]
theorem cntF_ge : ∀ (l : List Int) (n : Int), n ≤ l.foldl (fun n x => max n (x + 1)) n ∧ ∀ x ∈ l, x + 1 ≤ l.foldl (fun n x => max n (x + 1)) n
  | [], n => ⟨Int.le_refl _, fun x hx => by cases hx⟩
  | y :: l, n => by
    have := cntF_ge l (max n (y + 1))
    simp only [List.foldl_cons]
    refine ⟨by omega, fun x hx => ?_⟩
    rcases List.mem_cons.1 hx with rfl | hx
    · omega
    · exact this.2 x hx
theorem cntF_le : ∀ (l : List Int) (n M : Int), n ≤ M + 1 → (∀ x ∈ l, x ≤ M) → l.foldl (fun n x => max n (x + 1)) n ≤ M + 1
  | [], n, M, h, _ => h
  | y :: l, n, M, h, hl => by
    simp only [List.foldl_cons]
    exact cntF_le l _ M (by have := hl y (by simp); omega) (fun x hx => hl x (by simp [hx]))
theorem cntF_max {l : List Int} {M : Int} (h1 : M ∈ l) (h2 : ∀ x ∈ l, x ≤ M) (h3 : 0 ≤ M) : cntF l = M + 1 := by
  have a := (cntF_ge l 0).2 M h1
  have b := cntF_le l 0 M (by omega) h2
  unfold cntF
  omega
theorem cntF_few {l : List Int} {n : Nat} (h : ∀ x ∈ l, x < (n : Int)) : 0 ≤ cntF l ∧ cntF l ≤ (n : Int) := by
  have a := (cntF_ge l 0).1
  have b := cntF_le l 0 ((n : Int) - 1) (by omega) (fun x hx => by have := h x hx; omega)
  unfold cntF
  omega
theorem numV_le {p : Nat → Nat → Bool} {F : List Nat} {j : Nat} : numV p F j ≤ (F.length : Int) := by
  unfold numV
  split
  · omega
  · have := numI_lt p F j; omega
theorem numO_small {p : Nat → Nat → Bool} {c : Nat} {x : Int} (h : x ∈ numO p c) : 0 ≤ x ∧ x < (c : Int) := by
  unfold numO at h
  obtain ⟨j, hj, rfl⟩ := List.mem_map.1 h
  have h1 := List.mem_range.1 hj
  have h2 := numF_len p j
  have h3 := numV_le (p := p) (F := numF p j) (j := j)
  exact ⟨numV_nn _ _ _, by omega⟩
/-- ClassesOf and CountClasses as functions of plain data -/
def clzF (n : Int) (l : List Int) (kind : Int) : List Int := if tabB n l && inB kind 1 4 then numO (relK n.toNat (l.map Int.toNat) kind) n.toNat else []
theorem clzF_no1 {n : Int} {l : List Int} {kind : Int} (h : tabB n l = false) : clzF n l kind = [] := by simp [clzF, h]
theorem clzF_no2 {n : Int} {l : List Int} {kind : Int} (h : inB kind 1 4 = false) : clzF n l kind = [] := by simp [clzF, h]
theorem clzF_yes {m : Nat} {ln : List Nat} {kind : Int} (h : tabB (m : Nat) (ln.map Int.ofNat) = true) (h2 : inB kind 1 4 = true) : clzF (m : Nat) (ln.map Int.ofNat) kind = numO (relK m ln kind) m := by
  unfold clzF
  rw [h, h2, map_toNat']
  rfl
theorem clzF_small {n : Int} {l : List Int} {kind : Int} {x : Int} (h : x ∈ clzF n l kind) : 0 ≤ x ∧ x < 40 := by
  unfold clzF at h
  cases ht : tabB n l
  · rw [ht] at h; simp at h
  · obtain ⟨m, ln, rfl, rfl, hT⟩ := tabOk_out ht
    have := hT.hi
    split at h
    · have := numO_small h; simp at this; omega
    · cases h
theorem clzF_len (n : Int) (l : List Int) (kind : Int) : (clzF n l kind).length ≤ 40 := by
  unfold clzF
  cases ht : tabB n l
  · simp
  · obtain ⟨m, ln, rfl, rfl, hT⟩ := tabOk_out ht
    have := hT.hi
    split
    · rw [numO_len]; simpa using this
    · simp
end Go.Proofs.YtngbimgabcacpaaGreat
namespace Go.Proofs.YtngbimgabcacpaaGreat
open Go.RowKit Go.Sort
set_option linter.unusedVariables false
theorem owns_block_of {w : World} {base g cap n : Nat} {T : TypeId} {xs : List Value} (h : w.ownsRow base T 1 (.slice (some ⟨g, 0, none⟩) n cap) n xs) : ∃ cur, base ≤ g ∧ w.heap[g]? = some (.cells cur T (0, 0)) ∧ n ≤ cap ∧ cap ≤ maxLen ∧ cur.size = cap * 1 ∧ cur.toList.take n = xs := by
  rcases h.2 with ⟨hv, _⟩ | ⟨g', cap', cur, hv, hb, hg, hn, hc, hs, ht⟩
  · cases hv
  · simp only [Value.slice.injEq, Option.some.injEq, Addr.mk.injEq, and_true, true_and] at hv
    obtain ⟨rfl, rfl⟩ := hv
    exact ⟨cur, hb, hg, hn, hc, hs, by simpa using ht⟩
theorem owns_shrink {w : World} {base g cap n k : Nat} {T : TypeId} {xs : List Value} (h : w.ownsRow base T 1 (.slice (some ⟨g, 0, none⟩) n cap) n xs) (hk : k ≤ n) : w.ownsRow base T 1 (.slice (some ⟨g, 0, none⟩) k cap) k (xs.take k) := by
  have hl := h.1
  obtain ⟨cur, h1, h2, h3, h4, h5, h6⟩ := owns_block_of h
  refine ⟨by rw [List.length_take]; omega, .inr ⟨g, cap, cur, rfl, h1, h2, by omega, h4, h5, ?_⟩⟩
  rw [← h6, List.take_take]
  congr 1; omega
theorem grow_none (w : World) : grow w #[] = w := by simp [grow]
theorem sortOwn_any (l : List Int) (base g cap : Nat) (w : World) (h : w.ownsRow base 3 1 (.slice (some ⟨g, 0, none⟩) l.length cap) l.length (intVals l)) (hlen : l.length ≤ 2 ^ 47) :
    Calls Tryz.prog 64 #[.slice (some ⟨g, 0, none⟩) l.length cap] w fun e w' => e = .returned (.tuple #[]) ∧ w'.ownsRow base 3 1 (.slice (some ⟨g, 0, none⟩) l.length cap) l.length (intVals (sortL l)) ∧ w.grownBy w' (some g) := by
  obtain ⟨cur, h1, h2, h3, h4, h5, h6⟩ := owns_block_of h
  refine (Tryz.slices_Sort_int g 0 cap l w (holds_of_blockI h2 h6) (Array.getElem?_eq_some_iff.1 h2).1 (by omega)).mono ?_
  rintro e w' ⟨rfl, n, os, rfl⟩
  exact ⟨rfl, ownsRow_sortedI (by simp) h1 h2 h3 h4 h5, grownBy_sortedI _⟩
theorem compactOwn_any (l : List Int) (base g cap : Nat) (w : World) (h : w.ownsRow base 3 1 (.slice (some ⟨g, 0, none⟩) l.length cap) l.length (intVals l)) (hlen : l.length ≤ 2 ^ 47) :
    Calls Tryz.prog 81 #[.slice (some ⟨g, 0, none⟩) l.length cap] w fun e w' => e = .returned (.slice (some ⟨g, 0, none⟩) (Lib.compact l).length cap) ∧ w'.ownsRow base 3 1 (.slice (some ⟨g, 0, none⟩) (Lib.compact l).length cap) (Lib.compact l).length (intVals (Lib.compact l)) ∧ w.grownBy w' (some g) := by
  obtain ⟨cur, h1, h2, h3, h4, h5, h6⟩ := owns_block_of h
  have hle : (Lib.compact l).length ≤ l.length := by
    unfold Lib.compact Lib.compactUpTo
    rw [List.length_map]
    exact Nat.le_trans (List.length_filter_le _ _) (by simp)
  refine (Tryz.slices_Compact_int g 0 cap l w (holds_of_blockI h2 h6) (by omega) h3).mono ?_
  rintro e w' ⟨rfl, q, rfl⟩
  have k1 := ownsRow_sortedI (n := q) (os := #[]) (ss := l) (ts := Lib.compact l ++ List.replicate (l.length - (Lib.compact l).length) 0) (by simp; omega) h1 h2 h3 h4 h5
  have k2 := grownBy_sortedI (w := w) (g := g) (n := q) (os := #[]) (Lib.compact l ++ List.replicate (l.length - (Lib.compact l).length) 0).toArray
  rw [grow_none] at k1 k2
  refine ⟨rfl, ?_, k2⟩
  have k3 := owns_shrink k1 hle
  rw [List.map_append, List.take_left' (by simp)] at k3
  exact k3
set_option maxHeartbeats 800000 in
theorem collected_any (l : List Int) (a : Option Addr) (cap : Nat) (w : World) (hl : IntsIn w a l) (h0 : 0 < l.length) (hlen : l.length ≤ 1000000) :
    Calls Tryz.prog 47 #[.slice a l.length cap] w (RetSl 3 1 (collL l).length (intVals (collL l)) w) := by
  have HC : Hid (∀ W, Below w.heap.size w W → Calls Tryz.prog 80 #[.slice a l.length cap] W fun e W' => ∃ v', e = .returned v' ∧ W'.ownsRow W.heap.size 3 1 v' l.length (intVals l) ∧ v' ≠ .slice none 0 0 ∧ Below W.heap.size W W') := fun W hW => by
    obtain ⟨b, off, rfl, _, hc⟩ := (hl.later hW).cell h0
    have := Tryz.slices_Clone_int b off l.length cap l W (Nat.le_refl _) (by omega) (fun j hj => by have := hc j hj; unfold nthZ at this; exact this)
    rw [List.take_length] at this
    exact this
  clear hl
  go_enter Tryz.func47, Tryz.ntmps47
  go_wp2_with fail
  refine (HC.out _ (Below.refl _ _)).mono ?_
  rintro e w1 ⟨v1, rfl, ho1, hne, hb1⟩
  obtain ⟨g, cap1, rfl⟩ : ∃ g cap1, v1 = .slice (some ⟨g, 0, none⟩) l.length cap1 := by
    rcases ho1.2 with ⟨hv, _⟩ | ⟨g, cap', cur, hv, _⟩
    · exact absurd hv hne
    · exact ⟨g, cap', hv⟩
  have HO := Lib.hid ho1
  have HB := Lib.hid hb1
  clear ho1 hb1 hne HC
  go_wp2_with fail
  refine (sortOwn_any l _ g cap1 _ HO.out (by omega)).mono ?_
  rintro e w2 ⟨rfl, ho2, hg2⟩
  have HO2 : Hid (w2.ownsRow w.heap.size 3 1 (.slice (some ⟨g, 0, none⟩) (sortL l).length cap1) (sortL l).length (intVals (sortL l))) := by rw [sortL_len]; exact ho2
  have HB2 : Hid (Below w.heap.size w w2) := HB.out.grown hg2 HB.out.size (fun k hk => (HO.out.lt k hk).1)
  clear ho2 hg2
  go_wp2_with fail
  have hC := compactOwn_any (sortL l) _ g cap1 w2 HO2.out (by rw [sortL_len]; omega)
  rw [sortL_len] at hC
  refine hC.mono ?_
  rintro e w3 ⟨rfl, ho3, hg3⟩
  have HB3 : Hid (Below w.heap.size w w3) := HB2.out.grown hg3 HB2.out.size (fun k hk => (HO2.out.lt k hk).1)
  have HO3 := Lib.hid ho3
  clear ho3 hg3 hC
  go_wp2_with fail
  go_ret
  exact ⟨_, _, rfl, HO3.out, HB3.out⟩
end Go.Proofs.YtngbimgabcacpaaGreat
namespace Go.Proofs.YtngbimgabcacpaaGreat
open Go.RowKit
set_option linter.unusedVariables false
theorem alloc_belI (w : World) (o : Obj) : Below w.heap.size w (w.alloc o) := (Below.refl _ _).alloc (Nat.le_refl _) _
theorem intVals_snoc (x : Int) (l : List Int) : intVals (l ++ [x]) = intVals l ++ [.int .i64 x] := by simp [intVals]
set_option maxRecDepth 100000 in
set_option maxHeartbeats 2000000 in
theorem implIdeal_any (m : Nat) (ln : List Nat) (a : Option Addr) (len cap i : Nat) (kind : Int) (w : World) (hl : NatsIn w a ln) (hT : Tb m ln) (hlen : len = m * m) (hi : i < m) :
    Calls Tryz.prog 53 #[.agg #[.int .i64 m, .slice a len cap], .int .i64 i, .int .i64 kind] w (RetSl 3 1 (idLs m ln kind i).length (intVals (idLs m ln kind i)) w) := by
  have hm := hT.hi
  have hm0 := hT.lo
  have hsq := sq_le hm
  have HT := Lib.hid hT
  have HL := Lib.hid hlen
  have hb1 := alloc_belI w (.cells #[.int .i64 (m : Nat), .slice a len cap] 25)
  have HX : Hid (∀ W, Below (w.alloc (.cells #[.int .i64 (m : Nat), .slice a len cap] 25)).heap.size (w.alloc (.cells #[.int .i64 (m : Nat), .slice a len cap] 25)) W → W.cell? ⟨w.heap.size, 0, none⟩ = some (.int .i64 (m : Nat)) ∧ W.cell? ⟨w.heap.size, 1, none⟩ = some (.slice a len cap)) := Lib.hid (fun W hW => ⟨by rw [hW.cell (by simp)]; simp, by rw [hW.cell (by simp)]; simp⟩)
  have HB := Lib.hid hb1
  have HN := Lib.hid (hl.later hb1)
  have HZ : Hid (w.heap.size < (w.alloc (.cells #[.int .i64 (m : Nat), .slice a len cap] 25)).heap.size) := Lib.hid (by simp)
  have HCO := Lib.hid (fun (q : List Int) oa oc W (h : IntsIn W oa q) (h0 : 0 < q.length) (h1 : q.length ≤ 1000000) => collected_any q oa oc W h h0 h1)
  have hone : ∀ s : Int, ∀ u ∈ [Value.int .i64 s], u.oneCell' = true := fun s u hu => by rw [List.mem_singleton.1 hu]; rfl
  clear hl hT hlen hb1
  have HD : Hid (∀ q, collL q = idLs m ln kind i → 0 < q.length → q.length ≤ 1000000 → ∀ oa oc W, IntsIn W oa q → Calls Tryz.prog 47 #[.slice oa q.length oc] W (RetSl 3 1 (idLs m ln kind i).length (intVals (idLs m ln kind i)) W)) := Lib.hid (fun q hq h0 h1 oa oc W h => by
    have := HCO.out q oa oc W h h0 h1
    rw [hq] at this
    exact this)
  clear HCO
  by_cases h1 : kind = 1
  · subst h1
    have HCL := Lib.hid (collL_R HT.out hi)
    go_enter Tryz.func53, Tryz.ntmps53
    go_wp2_with fail
    generalize w.alloc (.cells #[.int .i64 (m : Nat), .slice a len cap] 25) = w1 at *
    go_loopw [7, 12] (fun v i' wr => ∃ c : Nat, c ≤ m ∧ i' = .int .i64 c ∧ Hid (Bld 3 1 w1 wr v (prR m ln i c).length (intVals (prR m ln i c)))) (fun _ i' _ => m - (intOf i').toNat)
    case atStart => exact ⟨0, Nat.zero_le _, rfl, Lib.hid (Bld.nil _ _ (Below.refl _ _))⟩
    case round =>
      obtain ⟨c, hcm, rfl, HO⟩ := hrel
      obtain ⟨z0, z1⟩ := HX.out _ HO.out.2
      have hpl : (prR m ln i c).length ≤ c := Nat.le_of_eq (prR_len i c)
      by_cases hlt : c < m
      · have HS := Lib.hid (prR_succ (m := m) (ln := ln) i c)
        go_wp2_with fail
        refine (implTimes_any m ln a _ _ i c _ (HN.out.later HO.out.2) HT.out HL.out hi hlt).mono ?_
        rintro e w3 ⟨rfl, hb3⟩
        have HO3 := Lib.hid (HO.out.later hb3)
        clear hb3 z0 z1
        go_wp2_with (at_builtin; refine wpList_app1 rfl _ _ rfl Tryz.underlying23 Tryz.infoInt rfl (by decide) rfl HO3.out rfl rfl (hone _) ?c2 ?c3 ?c4)
        case c2 => unfold maxLen; omega
        case c3 => omega
        intro v2 w4 hb4
        have F : Hid (Bld 3 1 w1 w4 v2 (prR m ln i (c + 1)).length (intVals (prR m ln i (c + 1)))) := Lib.hid (by rw [HS.out, intVals_snoc, List.length_append]; exact hb4)
        clear hb4
        go_wp2_with fail
        go_roundw
        case rel => exact ⟨c + 1, by omega, by go_num, F⟩
        case measure => simp [intOf]; omega
      · obtain rfl : c = m := by omega
        obtain ⟨oa, oc, rfl⟩ := owns_form HO.out.1
        have HC := Lib.hid (HD.out _ HCL.out (by rw [prR_len]; omega) (by omega) oa oc wr (owns_ints (l := prR c ln i c) HO.out.1))
        have HBE := Lib.hid (Below.now HB.out HO.out.2)
        clear z0 z1
        go_wp2_with fail
        refine HC.out.mono ?_
        rintro e w3 ⟨a3, c3, rfl, ho3, hb3⟩
        have F : Hid (RetSl 3 1 (idLs c ln 1 i).length (intVals (idLs c ln 1 i)) w (.returned (.slice a3 (idLs c ln 1 i).length c3)) w3) := Lib.hid ⟨_, _, rfl, owns_mono ho3 HBE.out.size, Below.now HBE.out hb3⟩
        clear ho3 hb3
        go_wp2_with fail
        go_ret
        exact F.out
  have e1 : (kind == 1) = false := by simpa using h1
  by_cases h2 : kind = 2
  · subst h2
    have HCL := Lib.hid (collL_L HT.out hi)
    go_enter Tryz.func53, Tryz.ntmps53
    go_wp2_with fail
    generalize w.alloc (.cells #[.int .i64 (m : Nat), .slice a len cap] 25) = w1 at *
    go_loopw [7, 12] (fun v i' wr => ∃ c : Nat, c ≤ m ∧ i' = .int .i64 c ∧ Hid (Bld 3 1 w1 wr v (prL m ln i c).length (intVals (prL m ln i c)))) (fun _ i' _ => m - (intOf i').toNat)
    case atStart => exact ⟨0, Nat.zero_le _, rfl, Lib.hid (Bld.nil _ _ (Below.refl _ _))⟩
    case round =>
      obtain ⟨c, hcm, rfl, HO⟩ := hrel
      obtain ⟨z0, z1⟩ := HX.out _ HO.out.2
      have hpl : (prL m ln i c).length ≤ c := Nat.le_of_eq (prL_len i c)
      by_cases hlt : c < m
      · have HS := Lib.hid (prL_succ (m := m) (ln := ln) i c)
        go_wp2_with fail
        refine (implTimes_any m ln a _ _ c i _ (HN.out.later HO.out.2) HT.out HL.out hlt hi).mono ?_
        rintro e w3 ⟨rfl, hb3⟩
        have HO3 := Lib.hid (HO.out.later hb3)
        clear hb3 z0 z1
        go_wp2_with (at_builtin; refine wpList_app1 rfl _ _ rfl Tryz.underlying23 Tryz.infoInt rfl (by decide) rfl HO3.out rfl rfl (hone _) ?d2 ?d3 ?d4)
        case d2 => unfold maxLen; omega
        case d3 => omega
        intro v2 w4 hb4
        have F : Hid (Bld 3 1 w1 w4 v2 (prL m ln i (c + 1)).length (intVals (prL m ln i (c + 1)))) := Lib.hid (by rw [HS.out, intVals_snoc, List.length_append]; exact hb4)
        clear hb4
        go_wp2_with fail
        go_roundw
        case rel => exact ⟨c + 1, by omega, by go_num, F⟩
        case measure => simp [intOf]; omega
      · obtain rfl : c = m := by omega
        obtain ⟨oa, oc, rfl⟩ := owns_form HO.out.1
        have HC := Lib.hid (HD.out _ HCL.out (by rw [prL_len]; omega) (by omega) oa oc wr (owns_ints (l := prL c ln i c) HO.out.1))
        have HBE := Lib.hid (Below.now HB.out HO.out.2)
        clear z0 z1
        go_wp2_with fail
        refine HC.out.mono ?_
        rintro e w3 ⟨a3, c3, rfl, ho3, hb3⟩
        have F : Hid (RetSl 3 1 (idLs c ln 2 i).length (intVals (idLs c ln 2 i)) w (.returned (.slice a3 (idLs c ln 2 i).length c3)) w3) := Lib.hid ⟨_, _, rfl, owns_mono ho3 HBE.out.size, Below.now HBE.out hb3⟩
        clear ho3 hb3
        go_wp2_with fail
        go_ret
        exact F.out
  have e2 : (kind == 2) = false := by simpa using h2
  have HCL := Lib.hid (collL_B HT.out h1 h2 hi)
  clear h1 h2
  go_enter Tryz.func53, Tryz.ntmps53
  go_wp2_with fail
  generalize w.alloc (.cells #[.int .i64 (m : Nat), .slice a len cap] 25) = w1 at *
  go_loopw [7, 12] (fun v i' wr => ∃ c : Nat, c ≤ m ∧ i' = .int .i64 c ∧ Hid (Bld 3 1 w1 wr v (prB m ln i c 0).length (intVals (prB m ln i c 0)))) (fun _ i' _ => m - (intOf i').toNat)
  case atStart => exact ⟨0, Nat.zero_le _, rfl, Lib.hid (Bld.nil _ _ (Below.refl _ _))⟩
  case round =>
    obtain ⟨c, hcm, rfl, HO⟩ := hrel
    obtain ⟨z0, z1⟩ := HX.out _ HO.out.2
    by_cases hlt : c < m
    · have hci := HT.out.tm_lt hlt hi
      have hcm2 := mul_le hm hlt
      go_wp2_with fail
      generalize hW0 : wr = wr0 at *
      clear hW0 z0 z1
      go_loopw [7, 18] (fun v j' wr => ∃ d : Nat, d ≤ m ∧ j' = .int .i64 d ∧ Hid (Bld 3 1 w1 wr v (prB m ln i c d).length (intVals (prB m ln i c d)))) (fun _ j' _ => m - (intOf j').toNat)
      case atStart => exact ⟨0, Nat.zero_le _, rfl, HO⟩
      case round =>
        clear HO
        obtain ⟨d, hdm, rfl, HO⟩ := hrel
        have hpl : (prB m ln i c d).length ≤ c * m + d := Nat.le_of_eq (prB_len i c d)
        obtain ⟨z0, z1⟩ := HX.out _ HO.out.2
        by_cases hld : d < m
        · have HS := Lib.hid (prB_succ (m := m) (ln := ln) i c d)
          obtain ⟨oa, oc, rfl⟩ := owns_form HO.out.1
          have hne : (Value.slice oa (prB m ln i c d).length oc).ownBlock ≠ some w.heap.size := fun e => by have := (HO.out.1.lt _ e).1; have := HZ.out; omega
          have HC1 : Hid ((prB m ln i c d).length + 1 ≤ maxLen) := Lib.hid (by unfold maxLen; omega)
          have HC2 : Hid (((prB m ln i c d).length + 1) * 8 ≤ 140737488355328) := Lib.hid (by omega)
          generalize prB m ln i c d = q at *
          have kr := Below.refl wr.heap.size wr
          go_wp2_with fail
          go_region_held3 (fun w' => w'.cell? ⟨w.heap.size, 0, none⟩ = some (.int .i64 (m : Nat)) ∧ w'.cell? ⟨w.heap.size, 1, none⟩ = some (.slice a len cap)) (go_keep) (first
            | (go_at_call 42; refine (implTimes_any m ln a _ _ _ _ _ (HN.out.later (Below.now HO.out.2 (by repeat (first | exact kr | refine Below.drew ?_ | refine below_drewN ?_ _)))) HT.out HL.out (by assumption) (by assumption)).mono ?_; rintro e w2 ⟨rfl, hb2⟩; replace kr : Below wr.heap.size wr w2 := Below.now (by repeat (first | exact kr | refine Below.drew ?_ | refine below_drewN ?_ _)) hb2; have s0 := (HX.out w2 (Below.now HO.out.2 kr)).1; have s1 := (HX.out w2 (Below.now HO.out.2 kr)).2; clear hb2)
            | (refine step_app1g rfl _ _ (by rfl) Tryz.underlying23 Tryz.infoInt rfl (by decide) (by rfl) (HO.out.later kr) (by rfl) rfl (hone _) HC1.out HC2.out ?_; intro v2 w4 hb4 hgr; have t0 : w4.cell? ⟨w.heap.size, 0, none⟩ = some (.int .i64 (m : Nat)) := far_cell hgr (HX.out _ (Below.now HO.out.2 kr)).1 hne; have t1 : w4.cell? ⟨w.heap.size, 1, none⟩ = some (.slice a len cap) := far_cell hgr (HX.out _ (Below.now HO.out.2 kr)).2 hne; clear hgr))
          all_goals
            have F : Hid (Bld 3 1 w1 w4 v2 (prB m ln i c (d + 1)).length (intVals (prB m ln i c (d + 1)))) := Lib.hid (by rw [HS.out, intVals_snoc, List.length_append]; exact hb4)
            clear hb4 hne kr
            go_wp2_with fail
            go_roundw
            case rel => exact ⟨d + 1, by omega, by go_num, F⟩
            case measure => simp [intOf]; omega
        · obtain rfl : d = m := by omega
          have F := HO
          rw [prB_full] at F
          clear z0 z1
          go_wp2_with fail
          go_roundw
          case rel => exact ⟨c + 1, by omega, by go_num, F⟩
          case measure => simp [intOf]; omega
    · obtain rfl : c = m := by omega
      obtain ⟨oa, oc, rfl⟩ := owns_form HO.out.1
      have hpl : (prB c ln i c 0).length ≤ c * c + 0 := Nat.le_of_eq (prB_len i c 0)
      have hc1 : 1 ≤ c * c := Nat.mul_le_mul hm0 hm0
      have HC := Lib.hid (HD.out _ HCL.out (by rw [prB_len]; omega) (by omega) oa oc wr (owns_ints (l := prB c ln i c 0) HO.out.1))
      have HBE := Lib.hid (Below.now HB.out HO.out.2)
      clear z0 z1
      go_wp2_with fail
      refine HC.out.mono ?_
      rintro e w3 ⟨a3, c3, rfl, ho3, hb3⟩
      have F : Hid (RetSl 3 1 (idLs c ln kind i).length (intVals (idLs c ln kind i)) w (.returned (.slice a3 (idLs c ln kind i).length c3)) w3) := Lib.hid ⟨_, _, rfl, owns_mono ho3 HBE.out.size, Below.now HBE.out hb3⟩
      clear ho3 hb3
      go_wp2_with fail
      go_ret
      exact F.out
end Go.Proofs.YtngbimgabcacpaaGreat
namespace Go.Proofs.YtngbimgabcacpaaGreat
open Go.RowKit
set_option linter.unusedVariables false
theorem Tryz.infoInts : (Tryz.prog.info? 23).map (fun i => (i.zero, i.size, i.bytes)) = some (some (.slice none 0 0), 1, 24) := by kernel_rfl
theorem box1_cells {W : World} {b : Nat} {x : Value} {T : TypeId} (h : W.heap[b]? = some (.cells #[x] T (0, 0))) : W.cell? ⟨b, 0, none⟩ = some x ∧ W.frozen? ⟨b, 0, none⟩ = false := ⟨by simp [World.cell?, h], by simp [World.frozen?, h]⟩
/-- rows of integers in memory of the call's own -/
def RowsAt (wr : World) (g : Nat) (key : Nat → List Int) (vals : List Value) : Prop :=
  ∀ j, j < vals.length → ∃ a cap, vals[j]? = some (.slice a (key j).length cap) ∧ wr.ownsRow (g + 1) 3 1 (.slice a (key j).length cap) (key j).length (intVals (key j))
/-- the captured slice at block g since w: its c elements are the keys -/
structure KeyS (w wr : World) (g : Nat) (v : Value) (c : Nat) (key : Nat → List Int) (vals : List Value) : Prop where
  blk : wr.heap[g]? = some (.cells #[v] 60 (0, 0))
  own : wr.ownsRow (g + 1) 23 1 v c vals
  rows : RowsAt wr g key vals
  le : w.heap.size ≤ g
  below : Below w.heap.size w wr
section
variable {w wr : World} {g : Nat} {v : Value} {c : Nat} {key : Nat → List Int} {vals : List Value}
theorem KeyS.facts (h : KeyS w wr g v c key vals) : wr.cell? ⟨g, 0, none⟩ = some v ∧ wr.frozen? ⟨g, 0, none⟩ = false := box1_cells h.blk
theorem KeyS.lt (h : KeyS w wr g v c key vals) : g < wr.heap.size := (Array.getElem?_eq_some_iff.1 h.blk).1
theorem KeyS.len (h : KeyS w wr g v c key vals) : vals.length = c := by have := h.own.1; omega
theorem RowsAt.later {w' : World} (h : RowsAt wr g key vals) (hb : Below wr.heap.size wr w') : RowsAt w' g key vals := fun j hj => by
  obtain ⟨a, cap, h1, h2⟩ := h j hj
  exact ⟨a, cap, h1, owns_later h2 hb⟩
theorem KeyS.later {w' : World} (h : KeyS w wr g v c key vals) (hb : Below wr.heap.size wr w') : KeyS w w' g v c key vals :=
  ⟨(hb.block g h.lt).trans h.blk, owns_later h.own hb, h.rows.later hb, h.le, Below.now h.below hb⟩
theorem KeyS.far (h : KeyS w wr g v c key vals) : v.ownBlock ≠ some g := fun e => by have := (h.own.lt g e).1; omega
theorem KeyS.start {w1 : World} (hb : Below w.heap.size w w1) (key : Nat → List Int) : KeyS w (w1.alloc (.cells #[.slice none 0 0] 60)) w1.heap.size (.slice none 0 0) 0 key [] :=
  ⟨alloc_at _ _, World.ownsRow_nil _ _ _ _, fun j hj => absurd hj (Nat.not_lt_zero _), hb.size, hb.alloc hb.size _⟩
/-- the box, once the slice has been appended to -/
theorem KeyS.grown {w2 w4 : World} {ob : Obj} (h : KeyS w wr g v c key vals) (hb : Below wr.heap.size wr w2) (hg : (w2.alloc ob).grownBy w4 v.ownBlock) : w4.heap[g]? = some (.cells #[v] 60 (0, 0)) := by
  have h2 := h.later (hb.alloc hb.size ob)
  exact (hg.block g h2.lt (fun e => h.far e.symm)).trans h2.blk
theorem row_apart {W : World} {base : Nat} {a : Option Addr} {n cap m k : Nat} {x : Value} {xs ys : List Value} (h1 : W.ownsRow base 23 1 x m xs) (h2 : W.ownsRow base 3 1 (.slice a n cap) k ys) : ∀ b, x.ownBlock = some b → (Value.slice a n cap).ownBlock ≠ some b := fun b hb e => by
  obtain ⟨ax, cx, rfl⟩ := owns_form h1
  cases ax with
  | none => simp [Value.ownBlock] at hb
  | some p =>
    cases a with
    | none => simp [Value.ownBlock] at e
    | some q =>
      simp only [Value.ownBlock, Option.some.injEq] at hb e
      rcases h1.2 with ⟨hv, _⟩ | ⟨g1, c1, cur1, hv1, _, hg1, _⟩
      · simp at hv
      rcases h2.2 with ⟨hv, _⟩ | ⟨g2, c2, cur2, hv2, _, hg2, _⟩
      · simp at hv
      simp only [Value.slice.injEq, Option.some.injEq] at hv1 hv2
      obtain ⟨rfl, _, _⟩ := hv1
      obtain ⟨rfl, _, _⟩ := hv2
      simp only at hb e
      subst hb
      subst e
      rw [hg1] at hg2
      simp at hg2
/-- a key more -/
theorem KeyS.put {w2 w4 : World} {ob : Obj} {v' : Value} {a : Option Addr} {cap : Nat} (h : KeyS w wr g v c key vals) (hb : Below wr.heap.size wr w2) (hr : w2.ownsRow (g + 1) 3 1 (.slice a (key c).length cap) (key c).length (intVals (key c)))
    (hg : (w2.alloc ob).grownBy w4 v.ownBlock) (hn : w4.ownsRow (g + 1) 23 1 v' (c + 1) (vals ++ [.slice a (key c).length cap])) : KeyS w (w4.setCell ⟨g, 0, none⟩ v') g v' (c + 1) key (vals ++ [.slice a (key c).length cap]) := by
  have hal : Below w2.heap.size w2 (w2.alloc ob) := (Below.refl _ _).alloc (Nat.le_refl _) _
  have h2 := h.later (Below.now hb hal)
  have h4 := h.grown hb hg
  have b4 : Below w.heap.size w w4 := h2.below.grown hg h2.below.size (fun k hk => by have := (h.own.lt k hk).1; have := h.le; omega)
  have keep : ∀ {a : Option Addr} {n cap : Nat} {ys : List Value}, (w2.alloc ob).ownsRow (g + 1) 3 1 (.slice a n cap) n ys → (w4.setCell ⟨g, 0, none⟩ v').ownsRow (g + 1) 3 1 (.slice a n cap) n ys := fun {a n cap ys} hy => by
    refine ownsRow_setCell_below (hy.kept hg ?_) (by show g < g + 1; omega) _
    cases hv : (Value.slice a n cap).ownBlock with
    | none => exact .inl rfl
    | some k => exact .inr fun e => row_apart h2.own hy k e.symm hv
  refine ⟨?_, ownsRow_setCell_below hn (by show g < g + 1; omega) _, fun j hj => ?_, h.le, b4.setCell h.le _⟩
  · unfold World.setCell
    simp [Array.getElem?_modify, h4]
  · have hl := h.len
    rw [List.length_append, List.length_singleton] at hj
    by_cases e : j = vals.length
    · subst e
      rw [hl]
      refine ⟨a, cap, ?_, keep (owns_later hr hal)⟩
      rw [List.getElem?_append_right (by omega)]
      simp [hl]
    · obtain ⟨a', cap', e1, e2⟩ := h2.rows j (by omega)
      refine ⟨a', cap', ?_, keep e2⟩
      rw [List.getElem?_append_left (by omega)]
      exact e1
/-- the key of an element, in all later worlds -/
theorem KeyS.at (h : KeyS w wr g v c key vals) {j : Nat} (hj : j < c) : ∃ b a cap, v = .slice (some ⟨b, 0, none⟩) c cap ∧ ∃ ca, ∀ W, Below wr.heap.size wr W → W.cell? ⟨g, 0, none⟩ = some v ∧ W.cell? ⟨b, j, none⟩ = some (.slice a (key j).length ca) ∧ IntsIn W a (key j) := by
  have hl := h.len
  obtain ⟨a, ca, e1, e2⟩ := h.rows j (by omega)
  rcases h.own.2 with ⟨_, h0⟩ | ⟨b, cap, cur, hv, _, _, _⟩
  · omega
  refine ⟨b, a, cap, hv, ca, fun W hW => ⟨(hW.cell (World.block_lt_of_cell? _ _ h.facts.1)).trans h.facts.1, ?_, (owns_ints (l := key j) e2).later hW⟩⟩
  have h1 : wr.cell? ⟨b, j, none⟩ = some (.slice a (key j).length ca) := by
    have hw := h.own
    rw [hv] at hw
    rw [hw.cellAt j (by omega)]
    exact e1
  exact (hW.cell (World.block_lt_of_cell? _ _ h1)).trans h1
end
end Go.Proofs.YtngbimgabcacpaaGreat
