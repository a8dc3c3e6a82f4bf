/-
  Ideals of a table, of the reference: l09Ideal, l09Same, l09Related.
-/
import Derived.Test.YtggfhephdcnpcaaGreatDoorGrp37
import Derived.Deep.RegionHeld3
namespace Go.Proofs.YtggfhephdcnpcaaGreatDoor
open Go.RowKit
set_option linter.unusedVariables false
/-- x is a product of i and one of the first c elements -/
def idR (m : Nat) (ln : List Nat) (i c x : Nat) : Bool := (List.range c).any fun y => decide (tm m ln i y = x)
def idL (m : Nat) (ln : List Nat) (i c x : Nat) : Bool := (List.range c).any fun y => decide (tm m ln y i = x)
def idI (m : Nat) (ln : List Nat) (i y d x : Nat) : Bool := (List.range d).any fun z => decide (tm m ln (tm m ln y i) z = x)
def idB (m : Nat) (ln : List Nat) (i c x : Nat) : Bool := (List.range c).any fun y => idI m ln i y m x
def idBI (m : Nat) (ln : List Nat) (i c d x : Nat) : Bool := idB m ln i c x || idI m ln i c d x
/-- x lies in the ideal of i: of kind 1, 2, or any other -/
def inId (m : Nat) (ln : List Nat) (kind : Int) (i x : Nat) : Bool := if kind = 1 then idR m ln i m x else if kind = 2 then idL m ln i m x else idB m ln i m x
section
variable {m : Nat} {ln : List Nat}
theorem any_succ (p : Nat → Bool) (c : Nat) : (List.range (c + 1)).any p = ((List.range c).any p || p c) := by simp [List.range_succ]
theorem idR_zero (i x : Nat) : idR m ln i 0 x = false := rfl
theorem idL_zero (i x : Nat) : idL m ln i 0 x = false := rfl
theorem idB_zero (i x : Nat) : idB m ln i 0 x = false := rfl
theorem idBI_zero (i c x : Nat) : idBI m ln i c 0 x = idB m ln i c x := by simp [idBI, idI]
theorem idR_succ (i c x : Nat) : (if x = tm m ln i c then true else idR m ln i c x) = idR m ln i (c + 1) x := by
  unfold idR; rw [any_succ]
  by_cases h : x = tm m ln i c
  · subst h; simp
  · have : ¬ tm m ln i c = x := fun e => h e.symm
    simp [h, this]
theorem idL_succ (i c x : Nat) : (if x = tm m ln c i then true else idL m ln i c x) = idL m ln i (c + 1) x := by
  unfold idL; rw [any_succ]
  by_cases h : x = tm m ln c i
  · subst h; simp
  · have : ¬ tm m ln c i = x := fun e => h e.symm
    simp [h, this]
theorem idBI_succ (i c d x : Nat) : (if x = tm m ln (tm m ln c i) d then true else idBI m ln i c d x) = idBI m ln i c (d + 1) x := by
  unfold idBI idI; rw [any_succ]
  by_cases h : x = tm m ln (tm m ln c i) d
  · subst h; simp
  · have : ¬ tm m ln (tm m ln c i) d = x := fun e => h e.symm
    simp [h, this]
theorem idBI_full (i c x : Nat) : idBI m ln i c m x = idB m ln i (c + 1) x := by
  unfold idBI idB; rw [any_succ]
theorem inId_1 (i x : Nat) : inId m ln 1 i x = idR m ln i m x := rfl
theorem inId_2 (i x : Nat) : inId m ln 2 i x = idL m ln i m x := rfl
theorem inId_3 {kind : Int} (h1 : kind ≠ 1) (h2 : kind ≠ 2) (i x : Nat) : inId m ln kind i x = idB m ln i m x := by unfold inId; rw [if_neg h1, if_neg h2]
/-- the elements of an ideal -/
def idLs (m : Nat) (ln : List Nat) (kind : Int) (i : Nat) : List Int := listTo (inId m ln kind i) m
theorem idLs_len (kind : Int) (i : Nat) : (idLs m ln kind i).length ≤ m := listTo_len _ _
theorem idLs_nn {kind : Int} {i : Nat} {x : Int} (h : x ∈ idLs m ln kind i) : 0 ≤ x := by
  obtain ⟨j, rfl, _⟩ := (listTo_mem _ _ _).1 h
  omega
/-- the products that the program lists -/
def prR (m : Nat) (ln : List Nat) (i c : Nat) : List Int := (List.range c).map fun y => ((tm m ln i y : Nat) : Int)
def prL (m : Nat) (ln : List Nat) (i c : Nat) : List Int := (List.range c).map fun y => ((tm m ln y i : Nat) : Int)
def prI (m : Nat) (ln : List Nat) (i y d : Nat) : List Int := (List.range d).map fun z => ((tm m ln (tm m ln y i) z : Nat) : Int)
def prB (m : Nat) (ln : List Nat) (i c d : Nat) : List Int := ((List.range c).flatMap fun y => prI m ln i y m) ++ prI m ln i c d
theorem prR_succ (i c : Nat) : prR m ln i (c + 1) = prR m ln i c ++ [((tm m ln i c : Nat) : Int)] := by simp [prR, List.range_succ]
theorem prL_succ (i c : Nat) : prL m ln i (c + 1) = prL m ln i c ++ [((tm m ln c i : Nat) : Int)] := by simp [prL, List.range_succ]
theorem prB_succ (i c d : Nat) : prB m ln i c (d + 1) = prB m ln i c d ++ [((tm m ln (tm m ln c i) d : Nat) : Int)] := by simp [prB, prI, List.range_succ]
theorem prB_full (i c : Nat) : prB m ln i c m = prB m ln i (c + 1) 0 := by simp [prB, prI, List.range_succ]
theorem prR_len (i c : Nat) : (prR m ln i c).length = c := by simp [prR]
theorem prL_len (i c : Nat) : (prL m ln i c).length = c := by simp [prL]
theorem prB_len (i c d : Nat) : (prB m ln i c d).length = c * m + d := by
  unfold prB
  rw [List.length_append]
  have h : ∀ n, ((List.range n).flatMap fun y => prI m ln i y m).length = n * m := fun n => by
    induction n with
    | zero => simp
    | succ n ih => rw [List.range_succ, List.flatMap_append, List.length_append, ih, Nat.succ_mul]; simp [prI]
  rw [h]; simp [prI]
theorem collL_R (hT : Tb m ln) {i : Nat} (hi : i < m) : collL (prR m ln i m) = idLs m ln 1 i := by
  refine collL_eq (fun x hx => ?_) (fun j hj => ?_)
  · obtain ⟨y, hy, rfl⟩ := List.mem_map.1 hx
    exact ⟨_, rfl, hT.tm_lt hi (List.mem_range.1 hy)⟩
  · rw [inId_1]
    unfold idR prR
    rw [List.any_eq_true, List.mem_map]
    constructor
    · rintro ⟨y, hy, h⟩; exact ⟨y, hy, by have := of_decide_eq_true h; omega⟩
    · rintro ⟨y, hy, h⟩; exact ⟨y, hy, decide_eq_true (by omega)⟩
theorem collL_L (hT : Tb m ln) {i : Nat} (hi : i < m) : collL (prL m ln i m) = idLs m ln 2 i := by
  refine collL_eq (fun x hx => ?_) (fun j hj => ?_)
  · obtain ⟨y, hy, rfl⟩ := List.mem_map.1 hx
    exact ⟨_, rfl, hT.tm_lt (List.mem_range.1 hy) hi⟩
  · rw [inId_2]
    unfold idL prL
    rw [List.any_eq_true, List.mem_map]
    constructor
    · rintro ⟨y, hy, h⟩; exact ⟨y, hy, by have := of_decide_eq_true h; omega⟩
    · rintro ⟨y, hy, h⟩; exact ⟨y, hy, decide_eq_true (by omega)⟩
theorem collL_B (hT : Tb m ln) {kind : Int} (h1 : kind ≠ 1) (h2 : kind ≠ 2) {i : Nat} (hi : i < m) : collL (prB m ln i m 0) = idLs m ln kind i := by
  refine collL_eq (fun x hx => ?_) (fun j hj => ?_)
  · unfold prB at hx
    simp only [prI, List.range_zero, List.map_nil, List.append_nil, List.mem_flatMap, List.mem_map, List.mem_range] at hx
    obtain ⟨y, hy, z, hz, rfl⟩ := hx
    exact ⟨_, rfl, hT.tm_lt (hT.tm_lt hy hi) hz⟩
  · rw [inId_3 h1 h2]
    unfold idB prB idI
    simp only [prI, List.range_zero, List.map_nil, List.append_nil, List.mem_flatMap, List.mem_map, List.any_eq_true, decide_eq_true_eq]
    constructor
    · rintro ⟨y, hy, z, hz, h⟩; exact ⟨y, hy, z, hz, by omega⟩
    · rintro ⟨y, hy, z, hz, h⟩; exact ⟨y, hy, z, hz, by omega⟩
end
/-- two elements are related -/
def relK (m : Nat) (ln : List Nat) (kind : Int) (i k : Nat) : Bool :=
  if kind = 4 then decide (idLs m ln 1 i = idLs m ln 1 k) && decide (idLs m ln 2 i = idLs m ln 2 k) else decide (idLs m ln kind i = idLs m ln kind k)
/-- what the program compares -/
def keyK (m : Nat) (ln : List Nat) (kind : Int) (i : Nat) : List Int := if kind = 4 then idLs m ln 1 i ++ [-1] ++ idLs m ln 2 i else idLs m ln kind i
theorem cut_eq : ∀ {a b c d : List Int}, (∀ x ∈ a, 0 ≤ x) → (∀ x ∈ c, 0 ≤ x) → a ++ -1 :: b = c ++ -1 :: d → a = c ∧ b = d
  | [], b, [], d, _, _, h => ⟨rfl, by simpa using h⟩
  | [], b, y :: c, d, _, hc, h => by
    simp only [List.nil_append, List.cons_append, List.cons.injEq] at h
    have := hc y (by simp); omega
  | x :: a, b, [], d, ha, _, h => by
    simp only [List.nil_append, List.cons_append, List.cons.injEq] at h
    have := ha x (by simp); omega
  | x :: a, b, y :: c, d, ha, hc, h => by
    simp only [List.cons_append, List.cons.injEq] at h
    obtain ⟨rfl, h⟩ := h
    obtain ⟨rfl, rfl⟩ := cut_eq (fun z hz => ha z (by simp [hz])) (fun z hz => hc z (by simp [hz])) h
    exact ⟨rfl, rfl⟩
theorem relK_key (m : Nat) (ln : List Nat) (kind : Int) (i k : Nat) : relK m ln kind i k = decide (keyK m ln kind i = keyK m ln kind k) := by
  unfold relK keyK
  by_cases h : kind = 4
  · rw [if_pos h, if_pos h, if_pos h, Bool.eq_iff_iff]
    simp only [Bool.and_eq_true, decide_eq_true_eq]
    constructor
    · rintro ⟨h1, h2⟩; rw [h1, h2]
    · intro h3
      simp only [List.append_assoc, List.cons_append, List.nil_append] at h3
      exact cut_eq (fun x hx => idLs_nn hx) (fun x hx => idLs_nn hx) h3
  · rw [if_neg h, if_neg h, if_neg h]
theorem relK_refl (m : Nat) (ln : List Nat) (kind : Int) (i : Nat) : relK m ln kind i i = true := by rw [relK_key]; simp
theorem relK_fun {m : Nat} {ln : List Nat} {kind : Int} {i k : Nat} (h : relK m ln kind i k = true) : relK m ln kind i = relK m ln kind k := by
  rw [relK_key] at h
  have := of_decide_eq_true h
  funext j
  rw [relK_key, relK_key, this]
theorem relK_four (m : Nat) (ln : List Nat) (i k : Nat) : relK m ln 4 i k = (relK m ln 1 i k && relK m ln 2 i k) := rfl
theorem relK_not4 {m : Nat} {ln : List Nat} {kind : Int} (h : kind ≠ 4) (i k : Nat) : relK m ln kind i k = decide (idLs m ln kind i = idLs m ln kind k) := by unfold relK; rw [if_neg h]
/-- the number that the reference gives, when it has come down to j -/
def clsV (p : Nat → Nat → Bool) (i j : Nat) : Int := match ((List.range i).drop j).find? (p i) with | some k => nthZ (numO p i) k | none => ((numF p i).length : Int)
theorem clsV_top (p : Nat → Nat → Bool) (i : Nat) : clsV p i i = ((numF p i).length : Int) := by
  unfold clsV
  rw [List.drop_eq_nil_of_le (by simp)]
  rfl
theorem clsV_down {p : Nat → Nat → Bool} {i j : Nat} (h : j < i) : clsV p i j = if p i j = true then nthZ (numO p i) j else clsV p i (j + 1) := by
  unfold clsV
  rw [List.drop_eq_getElem_cons (by simpa using h)]
  simp only [List.getElem_range, List.find?_cons]
  cases p i j <;> simp
theorem numI_lt (p : Nat → Nat → Bool) (F : List Nat) (j : Nat) : numI p F j < (F.length : Int) := by
  unfold numI
  cases h : F.findIdx? (p j)
  · simp; omega
  · rename_i i
    rw [List.findIdx?_eq_some_iff_getElem] at h
    obtain ⟨hi, _⟩ := h
    simp only
    omega
theorem numV_nn (p : Nat → Nat → Bool) (F : List Nat) (j : Nat) : 0 ≤ numV p F j := by
  unfold numV
  split
  · omega
  · omega
theorem numO_nth {p : Nat → Nat → Bool} {c j : Nat} (h : j < c) : nthZ (numO p c) j = numV p (numF p j) j := by
  rw [nthZ_lt (by rw [numO_len]; exact h)]
  simp [numO]
theorem clsV_zero {p : Nat → Nat → Bool} (hr : ∀ i, p i i = true) (hf : ∀ i k, p i k = true → p i = p k) (i : Nat) : clsV p i 0 = numV p (numF p i) i := by
  unfold clsV
  rw [List.drop_zero]
  cases h : (List.range i).find? (p i)
  · simp only
    rw [List.find?_eq_none] at h
    have h2 : (numF p i).any (p i) = false := by
      rw [List.any_eq_false]
      intro x hx
      exact h x (List.mem_range.2 (numF_lt p i x hx))
    rw [numV_no ((numI_neg _ _ _).2 h2)]
  · rename_i k
    simp only
    have h1 := List.find?_some h
    have h2 := List.mem_range.1 (List.mem_of_find?_eq_some h)
    rw [numO_nth h2, ← numI_full (m := i) (fun i _ => hr i) h2]
    have h3 : numI p (numF p i) k = numI p (numF p i) i := by unfold numI; rw [hf i k h1]
    rw [h3]
    have h4 : 0 ≤ numI p (numF p i) i := by
      rw [← h3, numI_full (m := i) (fun i _ => hr i) h2]
      exact numV_nn _ _ _
    rw [numV_yes (by omega)]
theorem numF_count {p : Nat → Nat → Bool} (i : Nat) : ((numF p (i + 1)).length : Int) = if numV p (numF p i) i = ((numF p i).length : Int) then ((numF p i).length : Int) + 1 else ((numF p i).length : Int) := by
  by_cases h : numI p (numF p i) i < 0
  · rw [numV_no h, if_pos rfl, numF_no h]; simp
  · rw [numV_yes h, numF_yes h]
    have := numI_lt p (numF p i) i
    rw [if_neg (by omega)]
/-- how many classes the numbers of classes tell of -/
def cntF (l : List Int) : Int := l.foldl (fun n x => max n (x + 1)) 0
theorem cntF_step (l : List Int) (x : Int) : cntF (l ++ [x]) = max (cntF l) (x + 1) := by simp [cntF]
theorem cntF_ge : ∀ (l : List Int) (n : Int), n ≤ l.foldl (fun n x => max n (x + 1)) n ∧ ∀ x ∈ l, x + 1 ≤ l.foldl (fun n x => max n (x + 1)) n
  | [], n => ⟨Int.le_refl _, fun x hx => by cases hx⟩
  | y :: l, n => by
    have := cntF_ge l (max n (y + 1))
    simp only [List.foldl_cons]
    refine ⟨by omega, fun x hx => ?_⟩
    rcases List.mem_cons.1 hx with rfl | hx
    · omega
    · exact this.2 x hx
theorem cntF_le : ∀ (l : List Int) (n M : Int), n ≤ M + 1 → (∀ x ∈ l, x ≤ M) → l.foldl (fun n x => max n (x + 1)) n ≤ M + 1
  | [], n, M, h, _ => h
  | y :: l, n, M, h, hl => by
    simp only [List.foldl_cons]
    exact cntF_le l _ M (by have := hl y (by simp); omega) (fun x hx => hl x (by simp [hx]))
theorem cntF_max {l : List Int} {M : Int} (h1 : M ∈ l) (h2 : ∀ x ∈ l, x ≤ M) (h3 : 0 ≤ M) : cntF l = M + 1 := by
  have a := (cntF_ge l 0).2 M h1
  have b := cntF_le l 0 M (by omega) h2
  unfold cntF
  omega
theorem cntF_few {l : List Int} {n : Nat} (h : ∀ x ∈ l, x < (n : Int)) : 0 ≤ cntF l ∧ cntF l ≤ (n : Int) := by
  have a := (cntF_ge l 0).1
  have b := cntF_le l 0 ((n : Int) - 1) (by omega) (fun x hx => by have := h x hx; omega)
  unfold cntF
  omega
theorem numV_le {p : Nat → Nat → Bool} {F : List Nat} {j : Nat} : numV p F j ≤ (F.length : Int) := by
  unfold numV
  split
  · omega
  · have := numI_lt p F j; omega
theorem numO_small {p : Nat → Nat → Bool} {c : Nat} {x : Int} (h : x ∈ numO p c) : 0 ≤ x ∧ x < (c : Int) := by
  unfold numO at h
  obtain ⟨j, hj, rfl⟩ := List.mem_map.1 h
  have h1 := List.mem_range.1 hj
  have h2 := numF_len p j
  have h3 := numV_le (p := p) (F := numF p j) (j := j)
  exact ⟨numV_nn _ _ _, by omega⟩
/-- ClassesOf and CountClasses as functions of plain data -/
def clzF (n : Int) (l : List Int) (kind : Int) : List Int := if tabB n l && inB kind 1 4 then numO (relK n.toNat (l.map Int.toNat) kind) n.toNat else []
theorem clzF_no1 {n : Int} {l : List Int} {kind : Int} (h : tabB n l = false) : clzF n l kind = [] := by simp [clzF, h]
theorem clzF_no2 {n : Int} {l : List Int} {kind : Int} (h : inB kind 1 4 = false) : clzF n l kind = [] := by simp [clzF, h]
theorem clzF_yes {m : Nat} {ln : List Nat} {kind : Int} (h : tabB (m : Nat) (ln.map Int.ofNat) = true) (h2 : inB kind 1 4 = true) : clzF (m : Nat) (ln.map Int.ofNat) kind = numO (relK m ln kind) m := by
  unfold clzF
  rw [h, h2, map_toNat']
  rfl
theorem clzF_small {n : Int} {l : List Int} {kind : Int} {x : Int} (h : x ∈ clzF n l kind) : 0 ≤ x ∧ x < 40 := by
  unfold clzF at h
  cases ht : tabB n l
  · rw [ht] at h; simp at h
  · obtain ⟨m, ln, rfl, rfl, hT⟩ := tabOk_out ht
    have := hT.hi
    split at h
    · have := numO_small h; simp at this; omega
    · cases h
theorem clzF_len (n : Int) (l : List Int) (kind : Int) : (clzF n l kind).length ≤ 40 := by
  unfold clzF
  cases ht : tabB n l
  · simp
  · obtain ⟨m, ln, rfl, rfl, hT⟩ := tabOk_out ht
    have := hT.hi
    split
    · rw [numO_len]; simpa using this
    · simp
end Go.Proofs.YtggfhephdcnpcaaGreatDoor
namespace Go.Proofs.YtggfhephdcnpcaaGreatDoor
open Go.RowKit
set_option linter.unusedVariables false
theorem alloc_bel (w : World) (o : Obj) : Below w.heap.size w (w.alloc o) := (Below.refl _ _).alloc (Nat.le_refl _) _
theorem bool_congr {T : TypeId} {w : World} {base g m : Nat} {f f' : Nat → Bool} (h : BoolRow T w base g m f) (hf : ∀ x, f x = f' x) : BoolRow T w base g m f' := h.congr fun j _ => hf j
set_option maxRecDepth 100000 in
set_option maxHeartbeats 2000000 in
theorem l09Ideal_any (m : Nat) (ln : List Nat) (a : Option Addr) (len cap i : Nat) (kind : Int) (w : World) (hl : NatsIn w a ln) (hT : Tb m ln) (hlen : len = m * m) (hi : i < m) :
    Calls Tryz.prog 214 #[.agg #[.int .i64 m, .slice a len cap], .int .i64 i, .int .i64 kind] w (RetBools m (inId m ln kind i) w) := by
  have hm := hT.hi
  have HT := Lib.hid hT
  have HL := Lib.hid hlen
  have hmk := run_make_row' (P := Tryz.prog) 92 4 (.bool false) 1 Tryz.underlying92 Tryz.infoBool rfl .i64 .i64 m (by omega) (by omega)
  have hb1 := alloc_bel w (.cells #[.int .i64 (m : Nat), .slice a len cap] 38)
  have HX : Hid (∀ W, Below (w.alloc (.cells #[.int .i64 (m : Nat), .slice a len cap] 38)).heap.size (w.alloc (.cells #[.int .i64 (m : Nat), .slice a len cap] 38)) W → W.cell? ⟨w.heap.size, 0, none⟩ = some (.int .i64 (m : Nat)) ∧ W.cell? ⟨w.heap.size, 1, none⟩ = some (.slice a len cap)) := Lib.hid (fun W hW => ⟨by rw [hW.cell (by simp)]; simp, by rw [hW.cell (by simp)]; simp⟩)
  have HB := Lib.hid hb1
  have HN := Lib.hid (hl.later hb1)
  have HZ1 : Hid (w.heap.size + 1 = (w.alloc (.cells #[.int .i64 (m : Nat), .slice a len cap] 38)).heap.size) := Lib.hid (by simp)
  clear hl hT hlen hb1
  go_enter Tryz.func214, Tryz.ntmps214
  go_wp2_with fail
  clear hmk
  generalize w.alloc (.cells #[.int .i64 (m : Nat), .slice a len cap] 38) = w1 at *
  have hrow := BoolRow.start w1 4 (madeCells #[.bool false] m) m (made_bools m) (by unfold maxLen; omega)
  have hb2 := alloc_bel w1 (.cells (madeCells #[.bool false] m) 4)
  generalize (w1.alloc (.cells (madeCells #[.bool false] m) 4)) = w2 at *
  obtain ⟨g, hg3⟩ : ∃ g, w.heap.size + 1 = g := ⟨_, rfl⟩
  have hg4 : w1.heap.size = g := by rw [← hg3]; exact HZ1.out.symm
  have hgB : w1.heap.size ≤ g := by omega
  rw [hg3]
  have hr2 : BoolRow 4 w2 w1.heap.size g m fun _ => false := by rw [hg4] at hrow ⊢; exact hrow
  have HB2 := Lib.hid hb2
  have HR2 := Lib.hid hr2
  clear hrow hr2 hb2 hg3 hg4
  have F : Hid (∀ W, Below w1.heap.size w1 W → BoolRow 4 W w1.heap.size g m (inId m ln kind i) → RetBools m (inId m ln kind i) w (.returned (.slice (some ⟨g, 0, none⟩) m m)) W) := Lib.hid (fun W hW hr => ⟨g, rfl, hr.ge HB.out.size, Below.now HB.out hW⟩)
  by_cases h1 : kind = 1
  · subst h1
    go_loopw [8] (fun i' wr => ∃ c : Nat, c ≤ m ∧ i' = .int .i64 c ∧ Hid (Below w1.heap.size w1 wr) ∧ Hid (BoolRow 4 wr w1.heap.size g m (idR m ln i c))) (fun i' _ => m - (intOf i').toNat)
    case atStart => exact ⟨0, Nat.zero_le _, rfl, HB2, HR2⟩
    case round =>
      clear HB2 HR2
      obtain ⟨c, hcm, rfl, HW, HR⟩ := hrel
      obtain ⟨z0, z1⟩ := HX.out _ HW.out
      by_cases hlt : c < m
      · have HS := Lib.hid (idR_succ (m := m) (ln := ln) i c)
        have hp := HT.out.tm_lt hi hlt
        go_wp2_with fail
        refine (specTimes_any m ln a _ _ i c _ (HN.out.later HW.out) HT.out HL.out hi hlt).mono ?_
        rintro e w3 ⟨rfl, hb3⟩
        have HR3 := Lib.hid (HR.out.later hb3)
        have hcell := HR3.out.cell hp
        have hfr := HR3.out.frozen (tm m ln i c)
        have HW9 := Lib.hid ((Below.now HW.out hb3).setCell hgB (p := ⟨g, tm m ln i c, none⟩) (.bool true))
        have HR9 := Lib.hid (bool_congr (HR3.out.store (tm m ln i c) true) HS.out)
        clear hb3 z0 z1 HR HR3
        go_wp2_with fail
        go_roundw
        case rel => exact ⟨c + 1, by omega, by go_num, HW9, HR9⟩
        case measure => simp [intOf]; omega
      · obtain rfl : c = m := by omega
        have F2 := Lib.hid (F.out _ HW.out HR.out)
        go_wp2_with fail
        go_ret
        exact F2.out
  have e1 : (kind == 1) = false := by simpa using h1
  have hk1 := Lib.hid h1
  by_cases h2 : kind = 2
  · subst h2
    go_loopw [8] (fun i' wr => ∃ c : Nat, c ≤ m ∧ i' = .int .i64 c ∧ Hid (Below w1.heap.size w1 wr) ∧ Hid (BoolRow 4 wr w1.heap.size g m (idL m ln i c))) (fun i' _ => m - (intOf i').toNat)
    case atStart => exact ⟨0, Nat.zero_le _, rfl, HB2, HR2⟩
    case round =>
      clear HB2 HR2
      obtain ⟨c, hcm, rfl, HW, HR⟩ := hrel
      obtain ⟨z0, z1⟩ := HX.out _ HW.out
      by_cases hlt : c < m
      · have HS := Lib.hid (idL_succ (m := m) (ln := ln) i c)
        have hp := HT.out.tm_lt hlt hi
        go_wp2_with fail
        refine (specTimes_any m ln a _ _ c i _ (HN.out.later HW.out) HT.out HL.out hlt hi).mono ?_
        rintro e w3 ⟨rfl, hb3⟩
        have HR3 := Lib.hid (HR.out.later hb3)
        have hcell := HR3.out.cell hp
        have hfr := HR3.out.frozen (tm m ln c i)
        have HW9 := Lib.hid ((Below.now HW.out hb3).setCell hgB (p := ⟨g, tm m ln c i, none⟩) (.bool true))
        have HR9 := Lib.hid (bool_congr (HR3.out.store (tm m ln c i) true) HS.out)
        clear hb3 z0 z1 HR HR3
        go_wp2_with fail
        go_roundw
        case rel => exact ⟨c + 1, by omega, by go_num, HW9, HR9⟩
        case measure => simp [intOf]; omega
      · obtain rfl : c = m := by omega
        have F2 := Lib.hid (F.out _ HW.out HR.out)
        go_wp2_with fail
        go_ret
        exact F2.out
  have e2 : (kind == 2) = false := by simpa using h2
  have hk2 := Lib.hid h2
  clear h1 h2
  go_loopw [8] (fun i' wr => ∃ c : Nat, c ≤ m ∧ i' = .int .i64 c ∧ Hid (Below w1.heap.size w1 wr) ∧ Hid (BoolRow 4 wr w1.heap.size g m (idB m ln i c))) (fun i' _ => m - (intOf i').toNat)
  case atStart => exact ⟨0, Nat.zero_le _, rfl, HB2, HR2⟩
  case round =>
    clear HB2 HR2
    obtain ⟨c, hcm, rfl, HW, HR⟩ := hrel
    obtain ⟨z0, z1⟩ := HX.out _ HW.out
    by_cases hlt : c < m
    · have HR0 := Lib.hid (bool_congr HR.out (fun x => (idBI_zero (m := m) (ln := ln) i c x).symm))
      have hci := HT.out.tm_lt hlt hi
      go_wp2_with fail
      generalize hW0 : wr = wr0 at *
      clear hW0 z0 z1
      go_loopw [9] (fun j' wr => ∃ d : Nat, d ≤ m ∧ j' = .int .i64 d ∧ Hid (Below w1.heap.size w1 wr) ∧ Hid (BoolRow 4 wr w1.heap.size g m (idBI m ln i c d))) (fun j' _ => m - (intOf j').toNat)
      case atStart => exact ⟨0, Nat.zero_le _, rfl, HW, HR0⟩
      case round =>
        clear HW HR0 HR
        obtain ⟨d, hdm, rfl, HW, HR⟩ := hrel
        obtain ⟨z0, z1⟩ := HX.out _ HW.out
        by_cases hld : d < m
        · have HS := Lib.hid (idBI_succ (m := m) (ln := ln) i c d)
          have hp := HT.out.tm_lt hci hld
          have kr := Below.refl wr.heap.size wr
          go_wp2_with fail
          go_region_held3 (fun w' => w'.cell? ⟨w.heap.size, 0, none⟩ = some (.int .i64 (m : Nat)) ∧ w'.cell? ⟨w.heap.size, 1, none⟩ = some (.slice a len cap)) (go_keep) (first | (go_at_call 101; refine (specTimes_any m ln a _ _ _ _ _ (HN.out.later (Below.now HW.out (by repeat (first | exact kr | refine Below.drew ?_ | refine below_drewN ?_ _)))) HT.out HL.out (by assumption) (by assumption)).mono ?_; rintro e w3 ⟨rfl, hb3⟩; replace kr : Below wr.heap.size wr w3 := Below.now (by repeat (first | exact kr | refine Below.drew ?_ | refine below_drewN ?_ _)) hb3; have t0 := (HX.out w3 (Below.now HW.out kr)).1; have t1 := (HX.out w3 (Below.now HW.out kr)).2; have hcell := (HR.out.later kr).cell hp; have hfr := (HR.out.later kr).frozen (tm m ln (tm m ln c i) d); have HR3 := Lib.hid (HR.out.later kr); have v0 := fun v => (HX.out _ ((Below.now HW.out kr).setCell hgB (p := ⟨g, tm m ln (tm m ln c i) d, none⟩) v)).1; have v1 := fun v => (HX.out _ ((Below.now HW.out kr).setCell hgB (p := ⟨g, tm m ln (tm m ln c i) d, none⟩) v)).2; clear hb3))
          all_goals
            have HW9 := Lib.hid ((Below.now HW.out kr).setCell hgB (p := ⟨g, tm m ln (tm m ln c i) d, none⟩) (.bool true))
            have HR9 := Lib.hid (bool_congr (HR3.out.store (tm m ln (tm m ln c i) d) true) HS.out)
            go_wp2_with fail
            go_roundw
            case rel => exact ⟨d + 1, by omega, by go_num, HW9, HR9⟩
            case measure => simp [intOf]; omega
        · obtain rfl : d = m := by omega
          have HR9 := Lib.hid (bool_congr HR.out (fun x => idBI_full (m := d) (ln := ln) i c x))
          go_wp2_with fail
          go_roundw
          case rel => exact ⟨c + 1, by omega, by go_num, HW, HR9⟩
          case measure => simp [intOf]; omega
    · obtain rfl : c = m := by omega
      have F2 := Lib.hid (F.out _ HW.out (bool_congr HR.out (fun x => (inId_3 hk1.out hk2.out i x).symm)))
      go_wp2_with fail
      go_ret
      exact F2.out
set_option maxHeartbeats 800000 in
theorem l09Same_any (xs ys : List Int) (ax ay : Option Addr) (cx cy : Nat) (w : World) (hx : IntsIn w ax xs) (hy : IntsIn w ay ys) (hxl : xs.length ≤ 2 ^ 47) (hyl : ys.length ≤ 2 ^ 47) :
    Calls Tryz.prog 212 #[.slice ax xs.length cx, .slice ay ys.length cy] w fun e w' => e = .returned (.bool (decide (xs = ys))) ∧ Below w.heap.size w w' := by
  have HX := Lib.hid hx
  have HY := Lib.hid hy
  clear hx hy
  by_cases hn : xs.length = ys.length
  · have hcond : ((xs.length : Int) != (ys.length : Int)) = false := by simp [hn]
    have HN := Lib.hid hn
    clear hn
    go_enter Tryz.func212, Tryz.ntmps212
    go_wp2_with fail
    go_loopw [14] (fun i wr => ∃ j : Nat, j ≤ xs.length ∧ i = .int .i64 j ∧ Hid (∀ q, q < j → nthZ xs q = nthZ ys q) ∧ Below w.heap.size w wr) (fun i _ => xs.length - (intOf i).toNat)
    case atStart => exact ⟨0, Nat.zero_le _, rfl, Lib.hid (fun q hq => by omega), Below.refl _ _⟩
    case round =>
      obtain ⟨j, hj, rfl, HQ, hbw⟩ := hrel
      by_cases hlt : j < xs.length
      · have hlt2 : j < ys.length := by have := HN.out; omega
        obtain ⟨b1, o1, rfl, _, hc1⟩ := (HX.out.later hbw).cell hlt
        obtain ⟨b2, o2, rfl, _, hc2⟩ := (HY.out.later hbw).cell hlt2
        have g1 := hc1 j hlt
        have g2 := hc2 j hlt2
        clear hc1 hc2
        have HS1 : Hid ((nthZ xs j != nthZ ys j) = false → ∀ q, q < j + 1 → nthZ xs q = nthZ ys q) := Lib.hid (fun he q hq => by
          by_cases e : q = j
          · subst e; simpa using he
          · exact HQ.out q (by omega))
        have HS2 : Hid ((nthZ xs j != nthZ ys j) = true → decide (xs = ys) = false) := Lib.hid (fun he => decide_eq_false (fun h => by subst h; simp at he))
        generalize nthZ xs j = u at *
        generalize nthZ ys j = v at *
        cases he : (u != v)
        · have F := Lib.hid (HS1.out he)
          go_wp2_with fail
          go_roundw
          case rel => exact ⟨j + 1, by omega, by go_num, F, hbw⟩
          case measure => simp [intOf]; omega
        · have F := Lib.hid (HS2.out he)
          go_wp2_with fail
          go_ret
          exact ⟨ret_bool F.out.symm, hbw⟩
      · have F : Hid (decide (xs = ys) = true) := Lib.hid (decide_eq_true (List.ext_getElem HN.out (fun q h1 h2 => by rw [← nthZ_lt h1, ← nthZ_lt h2]; exact HQ.out q (by omega))))
        go_wp2_with fail
        go_ret
        exact ⟨ret_bool F.out.symm, hbw⟩
  · have hcond : ((xs.length : Int) != (ys.length : Int)) = true := by simp; omega
    have F : Hid (decide (xs = ys) = false) := Lib.hid (decide_eq_false (fun h => hn (by rw [h])))
    clear hn
    go_enter Tryz.func212, Tryz.ntmps212
    go_wp2_with fail
    go_ret
    exact ⟨ret_bool F.out.symm, Below.refl _ _⟩
end Go.Proofs.YtggfhephdcnpcaaGreatDoor
