/-
  What FnTables asks: an idempotent among the powers, and the counts of a product.
-/
import Derived.Test.YtmgdglghjlggnaaGreatGway05
import Derived.Test.YtmgdglghjlggnaaGreatGway03
import Derived.Test.YtmgdglghjlggnaaGreatGway06
import Derived.Test.YtmgdglghjlggnaaGreatGway04
import Derived.Test.YtmgdglghjlggnaaGreatGway22
import Derived.Test.YtmgdglghjlggnaaGreatGway24
import Derived.Test.YtmgdglghjlggnaaGreatGway17
import Derived.Test.YtmgdglghjlggnaaGreatGway02
import Derived.Sort.OwnSortedInts
import Derived.Deep.RegionHeld3
import Derived.Test.YtmgdglghjlggnaaGreatGway16
import Derived.Lib.Slices
import Derived.Lib.Small
namespace Go.Proofs.YtmgdglghjlggnaaGreat
open Go.RowKit
set_option linter.unusedVariables false
theorem below_of_grownN {w wr wr' : World} {own : Option Nat} (h : Below w.heap.size w wr) (hg : wr.grownBy wr' own) (ho : ∀ k, own = some k → w.heap.size ≤ k) : Below w.heap.size w wr' := h.grown hg h.size ho
/-- two lists that are being built, apart from each other -/
def Two (w wr : World) (v : Value) (xs : List Int) (u : Value) (F : List Nat) : Prop :=
  Bld 3 1 w wr v xs.length (intVals xs) ∧ Bld 3 1 w wr u F.length (ivs F) ∧ ∀ k, v.ownBlock = some k → u.ownBlock ≠ some k
theorem Two.later {w wr wr' : World} {v u : Value} {xs : List Int} {F : List Nat} (h : Two w wr v xs u F) (hb : Below wr.heap.size wr wr') : Two w wr' v xs u F := ⟨h.1.later hb, h.2.1.later hb, h.2.2⟩
theorem kept_of {T : TypeId} {w wr wr' : World} {v : Value} {n : Nat} {xs : List Value} {own : Option Nat} (h : Bld T 1 w wr v n xs) (hg : wr.grownBy wr' own) (hne : ∀ k, v.ownBlock = some k → own ≠ some k) (ho : ∀ k, own = some k → w.heap.size ≤ k) : Bld T 1 w wr' v n xs := by
  refine ⟨h.1.kept hg ?_, below_of_grownN h.2 hg ho⟩
  cases hv : v.ownBlock with
  | none => exact .inl rfl
  | some k => exact .inr fun e => hne k hv (e.symm ▸ rfl)
theorem Two.putV {w wr w' : World} {v v' u : Value} {xs : List Int} {F : List Nat} {y : Int} (h : Two w wr v xs u F) (hb : Bld 3 1 w w' v' (xs.length + 1) (intVals xs ++ [.int .i64 y])) (hg : (wr.alloc (.cells #[.int .i64 y] 3)).grownBy w' v.ownBlock)
    (ho : v'.ownBlock = v.ownBlock ∨ v'.ownBlock = some (wr.alloc (.cells #[.int .i64 y] 3)).heap.size) : Two w w' v' (xs ++ [y]) u F := by
  have hal : Below wr.heap.size wr (wr.alloc (.cells #[.int .i64 y] 3)) := (Below.refl _ _).alloc (Nat.le_refl _) _
  refine ⟨?_, kept_of (h.2.1.later hal) hg (fun k hk e => h.2.2 k e hk) (fun k hk => (h.1.1.lt k hk).1), fun k hk e => ?_⟩
  · rw [List.length_append]; unfold intVals at *; rw [List.map_append]; exact hb
  · rcases ho with h1 | h1
    · exact h.2.2 k (h1 ▸ hk) e
    · rw [h1] at hk
      have h2 := Option.some.inj hk
      have h3 := (h.2.1.1.lt k e).2
      simp at h2; omega
theorem Two.putU {w wr w' : World} {v u u' : Value} {xs : List Int} {F : List Nat} {y : Nat} (h : Two w wr v xs u F) (hb : Bld 3 1 w w' u' (F.length + 1) (ivs F ++ [.int .i64 (y : Nat)])) (hg : (wr.alloc (.cells #[.int .i64 (y : Nat)] 3)).grownBy w' u.ownBlock)
    (ho : u'.ownBlock = u.ownBlock ∨ u'.ownBlock = some (wr.alloc (.cells #[.int .i64 (y : Nat)] 3)).heap.size) : Two w w' v xs u' (F ++ [y]) := by
  have hal : Below wr.heap.size wr (wr.alloc (.cells #[.int .i64 (y : Nat)] 3)) := (Below.refl _ _).alloc (Nat.le_refl _) _
  refine ⟨kept_of (h.1.later hal) hg (fun k hk e => h.2.2 k hk e) (fun k hk => (h.2.1.1.lt k hk).1), ?_, fun k hk e => ?_⟩
  · rw [List.length_append, ivs_app]; exact hb
  · rcases ho with h1 | h1
    · exact h.2.2 k hk (h1 ▸ e)
    · rw [h1] at e
      have h2 := Option.some.inj e
      have h3 := (h.1.1.lt k hk).2
      simp at h2; omega
section
variable {p : Nat → Nat → Bool}
end
end Go.Proofs.YtmgdglghjlggnaaGreat
namespace Go.Proofs.YtmgdglghjlggnaaGreat
open Go.RowKit
set_option linter.unusedVariables false
/-- x is a product of i and one of the first c elements -/
def idR (m : Nat) (ln : List Nat) (i c x : Nat) : Bool := (List.range c).any fun y => decide (tm m ln i y = x)
def idL (m : Nat) (ln : List Nat) (i c x : Nat) : Bool := (List.range c).any fun y => decide (tm m ln y i = x)
def idI (m : Nat) (ln : List Nat) (i y d x : Nat) : Bool := (List.range d).any fun z => decide (tm m ln (tm m ln y i) z = x)
def idB (m : Nat) (ln : List Nat) (i c x : Nat) : Bool := (List.range c).any fun y => idI m ln i y m x
/-- x lies in the ideal of i: of kind 1, 2, or any other -/
def inId (m : Nat) (ln : List Nat) (kind : Int) (i x : Nat) : Bool := if kind = 1 then idR m ln i m x else if kind = 2 then idL m ln i m x else idB m ln i m x
section
variable {m : Nat} {ln : List Nat}
theorem inId_1 (i x : Nat) : inId m ln 1 i x = idR m ln i m x := rfl
theorem inId_2 (i x : Nat) : inId m ln 2 i x = idL m ln i m x := rfl
/-- the elements of an ideal -/
def idLs (m : Nat) (ln : List Nat) (kind : Int) (i : Nat) : List Int := listTo (inId m ln kind i) m
theorem idLs_nn {kind : Int} {i : Nat} {x : Int} (h : x ∈ idLs m ln kind i) : 0 ≤ x := by
  obtain ⟨j, rfl, _⟩ := (listTo_mem _ _ _).1 h
  omega
end
/-- two elements are related -/
def relK (m : Nat) (ln : List Nat) (kind : Int) (i k : Nat) : Bool :=
  if kind = 4 then decide (idLs m ln 1 i = idLs m ln 1 k) && decide (idLs m ln 2 i = idLs m ln 2 k) else decide (idLs m ln kind i = idLs m ln kind k)
/-- what the program compares -/
def keyK (m : Nat) (ln : List Nat) (kind : Int) (i : Nat) : List Int := if kind = 4 then idLs m ln 1 i ++ [-1] ++ idLs m ln 2 i else idLs m ln kind i
theorem cut_eq : ∀ {a b c d : List Int}, (∀ x ∈ a, 0 ≤ x) → (∀ x ∈ c, 0 ≤ x) → a ++ -1 :: b = c ++ -1 :: d → a = c ∧ b = d
  | [], b, [], d, _, _, h => ⟨rfl, by simpa using h⟩
  | [], b, y :: c, d, _, hc, h => by
    simp only [List.nil_append, List.cons_append, List.cons.injEq] at h
    have := hc y (by simp); omega
  | x :: a, b, [], d, ha, _, h => by
    simp only [List.nil_append, List.cons_append, List.cons.injEq] at h
    have := ha x (by simp); omega
  | x :: a, b, y :: c, d, ha, hc, h => by
    simp only [List.cons_append, List.cons.injEq] at h
    obtain ⟨rfl, h⟩ := h
    obtain ⟨rfl, rfl⟩ := cut_eq (fun z hz => ha z (by simp [hz])) (fun z hz => hc z (by simp [hz])) h
    exact ⟨rfl, rfl⟩
theorem relK_key (m : Nat) (ln : List Nat) (kind : Int) (i k : Nat) : relK m ln kind i k = decide (keyK m ln kind i = keyK m ln kind k) := by
  unfold relK keyK
  by_cases h : kind = 4
  · rw [if_pos h, if_pos h, if_pos h, Bool.eq_iff_iff]
    simp only [Bool.and_eq_true, decide_eq_true_eq]
    constructor
    · rintro ⟨h1, h2⟩; rw [h1, h2]
    · intro h3
      simp only [List.append_assoc, List.cons_append, List.nil_append] at h3
      exact cut_eq (fun x hx => idLs_nn hx) (fun x hx => idLs_nn hx) h3
  · rw [if_neg h, if_neg h, if_neg h]
theorem relK_refl (m : Nat) (ln : List Nat) (kind : Int) (i : Nat) : relK m ln kind i i = true := by rw [relK_key]; simp
theorem relK_four (m : Nat) (ln : List Nat) (i k : Nat) : relK m ln 4 i k = (relK m ln 1 i k && relK m ln 2 i k) := rfl
theorem relK_not4 {m : Nat} {ln : List Nat} {kind : Int} (h : kind ≠ 4) (i k : Nat) : relK m ln kind i k = decide (idLs m ln kind i = idLs m ln kind k) := by unfold relK; rw [if_neg h]
end Go.Proofs.YtmgdglghjlggnaaGreat
namespace Go.Proofs.YtmgdglghjlggnaaGreat
open Go.RowKit
set_option linter.unusedVariables false
set_option linter.unusedSectionVars false
theorem listTo_congr {f g : Nat → Bool} {m : Nat} (h : ∀ x, x < m → f x = g x) : listTo f m = listTo g m := by
  unfold listTo
  congr 1
  exact List.filter_congr fun x hx => h x (List.mem_range.1 hx)
theorem listTo_inj {f g : Nat → Bool} {m : Nat} (h : listTo f m = listTo g m) {x : Nat} (hx : x < m) : f x = g x := by
  rw [Bool.eq_iff_iff]
  have key : ∀ f : Nat → Bool, f x = true ↔ ((x : Nat) : Int) ∈ listTo f m := fun f => by
    rw [listTo_mem]
    constructor
    · intro hf; exact ⟨x, rfl, hx, hf⟩
    · rintro ⟨j, e, _, hf⟩
      have : j = x := by omega
      rw [← this]; exact hf
  rw [key f, key g, h]
theorem listTo_at {f : Nat → Bool} {m x : Nat} : ((x : Nat) : Int) ∈ listTo f m ↔ x < m ∧ f x = true := by
  rw [listTo_mem]
  constructor
  · rintro ⟨j, e, hj, hf⟩
    have : j = x := by omega
    subst this
    exact ⟨hj, hf⟩
  · rintro ⟨h1, h2⟩; exact ⟨x, rfl, h1, h2⟩
section
variable {m : Nat} {ln : List Nat} (h : TabOk m ln)
theorem idR_iff {i x c : Nat} : idR m ln i c x = true ↔ ∃ y, y < c ∧ tm m ln i y = x := by
  unfold idR
  simp
theorem idL_iff {i x c : Nat} : idL m ln i c x = true ↔ ∃ y, y < c ∧ tm m ln y i = x := by
  unfold idL
  simp
include h
theorem idR_le {i k : Nat} (hi : i < m) (hk : k < m) (hr : ∃ a, a < m ∧ tm m ln k a = i) {x : Nat} (hx : idR m ln i m x = true) : idR m ln k m x = true := by
  obtain ⟨a, ha, rfl⟩ := hr
  obtain ⟨y, hy, rfl⟩ := idR_iff.1 hx
  exact idR_iff.2 ⟨tm m ln a y, h.tm_lt ha hy, (h.assoc k a y hk ha hy).symm⟩
theorem idL_le {i k : Nat} (hi : i < m) (hk : k < m) (hr : ∃ a, a < m ∧ tm m ln a k = i) {x : Nat} (hx : idL m ln i m x = true) : idL m ln k m x = true := by
  obtain ⟨a, ha, rfl⟩ := hr
  obtain ⟨y, hy, rfl⟩ := idL_iff.1 hx
  exact idL_iff.2 ⟨tm m ln y a, h.tm_lt hy ha, h.assoc y a k hy ha hk⟩
theorem rel1_iff {i k : Nat} (hi : i < m) (hk : k < m) : relK m ln 1 i k = true ↔ (∃ a, a < m ∧ tm m ln k a = i) ∧ (∃ b, b < m ∧ tm m ln i b = k) := by
  rw [relK_not4 (by decide), decide_eq_true_eq]
  constructor
  · intro he
    have h1 := listTo_inj he hi
    have h2 := listTo_inj he hk
    rw [inId_1, inId_1] at h1 h2
    exact ⟨idR_iff.1 (h1.symm.trans (idR_iff.2 ⟨0, h.lo, h.right i hi⟩)), idR_iff.1 (h2.trans (idR_iff.2 ⟨0, h.lo, h.right k hk⟩))⟩
  · rintro ⟨h1, h2⟩
    refine listTo_congr fun x hx => ?_
    rw [inId_1, inId_1, Bool.eq_iff_iff]
    exact ⟨idR_le h hi hk h1, idR_le h hk hi h2⟩
theorem rel2_iff {i k : Nat} (hi : i < m) (hk : k < m) : relK m ln 2 i k = true ↔ (∃ a, a < m ∧ tm m ln a k = i) ∧ (∃ b, b < m ∧ tm m ln b i = k) := by
  rw [relK_not4 (by decide), decide_eq_true_eq]
  constructor
  · intro he
    have h1 := listTo_inj he hi
    have h2 := listTo_inj he hk
    rw [inId_2, inId_2] at h1 h2
    exact ⟨idL_iff.1 (h1.symm.trans (idL_iff.2 ⟨0, h.lo, h.left i hi⟩)), idL_iff.1 (h2.trans (idL_iff.2 ⟨0, h.lo, h.left k hk⟩))⟩
  · rintro ⟨h1, h2⟩
    refine listTo_congr fun x hx => ?_
    rw [inId_2, inId_2, Bool.eq_iff_iff]
    exact ⟨idL_le h hi hk h1, idL_le h hk hi h2⟩
/-- related to an idempotent on both sides -/
theorem rel4_iff {i k : Nat} (hi : i < m) (hk : k < m) : relK m ln 4 i k = true ↔ ((∃ a, a < m ∧ tm m ln k a = i) ∧ (∃ b, b < m ∧ tm m ln i b = k)) ∧ ((∃ a, a < m ∧ tm m ln a k = i) ∧ (∃ b, b < m ∧ tm m ln b i = k)) := by
  rw [relK_four, Bool.and_eq_true, rel1_iff h hi hk, rel2_iff h hi hk]
theorem rel_unit {e y : Nat} (he : e < m) (hee : tm m ln e e = e) (hy : y < m) (hr : relK m ln 4 y e = true) : tm m ln e y = y ∧ tm m ln y e = y := by
  obtain ⟨⟨⟨a, ha, h1⟩, _⟩, ⟨b, hb, h2⟩, _⟩ := (rel4_iff h hy he).1 hr
  constructor
  · rw [← h1, ← h.assoc e e a he he ha, hee]
  · rw [← h2, h.assoc b e e hb he he, hee]
theorem rel_prod {e y z : Nat} (he : e < m) (hee : tm m ln e e = e) (hy : y < m) (hz : z < m) (hry : relK m ln 4 y e = true) (hrz : relK m ln 4 z e = true) : relK m ln 4 (tm m ln y z) e = true := by
  obtain ⟨ey, ye⟩ := rel_unit h he hee hy hry
  obtain ⟨ez, ze⟩ := rel_unit h he hee hz hrz
  obtain ⟨⟨_, b1, hb1, y1⟩, _, c1, hc1, y2⟩ := (rel4_iff h hy he).1 hry
  obtain ⟨⟨_, b2, hb2, z1⟩, _, c2, hc2, z2⟩ := (rel4_iff h hz he).1 hrz
  have hp := h.tm_lt hy hz
  refine (rel4_iff h hp he).2 ⟨⟨⟨_, hp, ?_⟩, tm m ln b2 b1, h.tm_lt hb2 hb1, ?_⟩, ⟨_, hp, ?_⟩, tm m ln c2 c1, h.tm_lt hc2 hc1, ?_⟩
  · rw [← h.assoc e y z he hy hz, ey]
  · rw [← h.assoc _ b2 b1 hp hb2 hb1, h.assoc y z b2 hy hz hb2, z1, ye, y1]
  · rw [h.assoc y z e hy hz he, ze]
  · rw [h.assoc c2 c1 _ hc2 hc1 hp, ← h.assoc c1 y z hc1 hy hz, y2, ez, z2]
theorem rel_inv {e y : Nat} (he : e < m) (hee : tm m ln e e = e) (hy : y < m) (hry : relK m ln 4 y e = true) : ∃ z, z < m ∧ relK m ln 4 z e = true ∧ tm m ln y z = e := by
  obtain ⟨ey, ye⟩ := rel_unit h he hee hy hry
  obtain ⟨⟨_, b, hb, y1⟩, _, d, hd, y2⟩ := (rel4_iff h hy he).1 hry
  have heb := h.tm_lt he hb
  have hz := h.tm_lt heb he
  have p1 : tm m ln y (tm m ln (tm m ln e b) e) = e := by
    rw [← h.assoc y (tm m ln e b) e hy heb he, ← h.assoc y e b hy he hb, ye, y1, hee]
  have p2 : tm m ln (tm m ln (tm m ln e b) e) y = e := by
    rw [h.assoc (tm m ln e b) e y heb he hy, ey]
    have e1 : tm m ln (tm m ln e b) y = tm m ln d (tm m ln y (tm m ln b y)) := by
      rw [← h.assoc d y _ hd hy (h.tm_lt hb hy), y2, h.assoc e b y he hb hy]
    rw [e1, ← h.assoc y b y hy hb hy, y1, ey, y2]
  have p3 : tm m ln e (tm m ln (tm m ln e b) e) = tm m ln (tm m ln e b) e := by
    rw [← h.assoc e (tm m ln e b) e he heb he, ← h.assoc e e b he he hb, hee]
  have p4 : tm m ln (tm m ln (tm m ln e b) e) e = tm m ln (tm m ln e b) e := by
    rw [h.assoc (tm m ln e b) e e heb he he, hee]
  exact ⟨_, hz, (rel4_iff h hz he).2 ⟨⟨⟨_, hz, p3⟩, y, hy, p2⟩, ⟨_, hz, p4⟩, y, hy, p1⟩, p1⟩
theorem idem_reg {i : Nat} (hi : i < m) (he : idemB m ln i = true) : isReg m ln i = true := by
  have hee : tm m ln i i = i := by simpa [idemB] using he
  unfold isReg
  rw [Bool.not_eq_true', Bool.eq_false_iff]
  intro ha
  have := all_range.1 ha i hi
  unfold regB at this
  rw [hee, hee] at this
  simp at this
theorem zero_idem : idemB m ln 0 = true := by unfold idemB; rw [decide_eq_true_eq]; exact h.left 0 h.lo
theorem unit_iff {i : Nat} : isUnit m ln i = true ↔ ∃ k, k < m ∧ tm m ln i k = 0 ∧ tm m ln k i = 0 := by
  unfold isUnit
  rw [Bool.not_eq_true']
  constructor
  · intro hf
    rcases Classical.em (∃ k, k < m ∧ tm m ln i k = 0 ∧ tm m ln k i = 0) with h1 | h1
    · exact h1
    · exfalso
      rw [Bool.eq_false_iff] at hf
      refine hf (all_range.2 fun k hk => ?_)
      cases hb : unB m ln i k
      · exfalso
        unfold unB at hb
        simp at hb
        exact h1 ⟨k, hk, hb.1, hb.2⟩
      · rfl
  · rintro ⟨k, hk, h1, h2⟩
    refine all_range_false hk ?_
    unfold unB
    simp [h1, h2]
theorem unit_rel {i : Nat} (hi : i < m) : relK m ln 4 i 0 = isUnit m ln i := by
  rw [Bool.eq_iff_iff, rel4_iff h hi h.lo, unit_iff h]
  constructor
  · rintro ⟨⟨_, b, hb, h1⟩, _, d, hd, h2⟩
    have e : d = b := by
      have h3 := h.assoc d i b hd hi hb
      rw [h2, h1, h.left b hb, h.right d hd] at h3
      exact h3.symm
    subst e
    exact ⟨d, hb, h1, h2⟩
  · rintro ⟨k, hk, h1, h2⟩
    exact ⟨⟨⟨i, hi, h.left i hi⟩, k, hk, h1⟩, ⟨i, hi, h.right i hi⟩, k, hk, h2⟩
end
theorem listTo_mono {f g : Nat → Bool} {m : Nat} (h : ∀ x, x < m → f x = true → g x = true) : (listTo f m).length ≤ (listTo g m).length := by
  unfold listTo
  rw [List.length_map, List.length_map]
  have key : ∀ l : List Nat, (∀ x ∈ l, x < m) → (l.filter f).length ≤ (l.filter g).length := by
    intro l
    induction l with
    | nil => intro _; exact Nat.le_refl _
    | cons x l ih =>
      intro hl
      have h1 := ih fun y hy => hl y (List.mem_cons_of_mem _ hy)
      rw [List.filter_cons, List.filter_cons]
      cases hf : f x
      · cases hg : g x <;> simp <;> omega
      · rw [h x (hl x List.mem_cons_self) hf]
        simp; omega
  exact key _ fun x hx => List.mem_range.1 hx
/-- the group with an idempotent -/
def mgF (n : Int) (l : List Int) (e : Int) : List Int := if decide (e ∈ idemF n l) then thoseL n l (fun i => relK n.toNat (l.map Int.toNat) 4 i e.toNat) else []
/-- the facts that the law asks for -/
structure RegG (n : Int) (l : List Int) : Prop where
  ne : (idemF n l).length ≠ 0
  zero : (0 : Int) ∈ idemF n l
  le : (idemF n l).length ≤ (regularOfF n l).length
  few : ((regularOfF n l).length : Int) ≤ n
  reg : ∀ x ∈ idemF n l, x ∈ regularOfF n l
  self : ∀ x ∈ idemF n l, x ∈ mgF n l x
  units : mgF n l 0 = unitsOfF n l
/-- the facts of one of its groups -/
structure RegE (m : Nat) (ln : List Nat) (x : Nat) (G : List Int) : Prop where
  el : ∀ y ∈ G, ∃ j : Nat, y = (j : Int) ∧ j < m ∧ tm m ln x j = j
  prod : ∀ i j : Nat, (i : Int) ∈ G → (j : Int) ∈ G → ((tm m ln i j : Nat) : Int) ∈ G
  inv : ∀ i : Nat, (i : Int) ∈ G → ∃ j : Nat, (j : Int) ∈ G ∧ tm m ln i j = x
theorem TabG.forms {m : Nat} {ln : List Nat} (h : TabOk m ln) : idemF (m : Nat) (ln.map Int.ofNat) = listTo (idemB m ln) m ∧ regularOfF (m : Nat) (ln.map Int.ofNat) = listTo (isReg m ln) m ∧ unitsOfF (m : Nat) (ln.map Int.ofNat) = listTo (isUnit m ln) m ∧
    ∀ x : Nat, x < m → idemB m ln x = true → mgF (m : Nat) (ln.map Int.ofNat) (x : Nat) = listTo (fun i => relK m ln 4 i x) m := by
  have ht := TabG.tab ⟨ln, rfl, h⟩
  have e1 : idemF (m : Nat) (ln.map Int.ofNat) = listTo (idemB m ln) m := by
    unfold idemF; rw [thoseL_yes ht, map_toNat]; rfl
  refine ⟨e1, by unfold regularOfF; rw [thoseL_yes ht, map_toNat]; rfl, by unfold unitsOfF; rw [thoseL_yes ht, map_toNat]; rfl, fun x hx hi => ?_⟩
  unfold mgF
  rw [e1, decide_eq_true (listTo_at.2 ⟨hx, hi⟩), if_pos rfl, thoseL_yes ht, map_toNat]
  rfl
theorem TabG.reg {m : Nat} {l : List Int} (h : TabG m l) : RegG (m : Nat) l := by
  obtain ⟨ln, rfl, h⟩ := h
  obtain ⟨e1, e2, e3, e4⟩ := TabG.forms h
  have h0 : (0 : Int) ∈ listTo (idemB m ln) m := listTo_at.2 ⟨h.lo, zero_idem h⟩
  refine ⟨?_, ?_, ?_, ?_, ?_, ?_, ?_⟩
  · rw [e1]; intro h1; rw [List.eq_nil_of_length_eq_zero h1] at h0; cases h0
  · rw [e1]; exact h0
  · rw [e1, e2]; exact listTo_mono fun x hx => idem_reg h hx
  · rw [e2]; exact Int.ofNat_le.2 (listTo_len _ _)
  · rw [e1, e2]
    intro x hx
    obtain ⟨j, rfl, hj, hi⟩ := (listTo_mem _ _ _).1 hx
    exact listTo_at.2 ⟨hj, idem_reg h hj hi⟩
  · rw [e1]
    intro x hx
    obtain ⟨j, rfl, hj, hi⟩ := (listTo_mem _ _ _).1 hx
    rw [e4 j hj hi]
    exact listTo_at.2 ⟨hj, relK_refl _ _ _ _⟩
  · rw [e3]
    have := e4 0 h.lo (zero_idem h)
    rw [show ((0 : Nat) : Int) = 0 from rfl] at this
    rw [this]
    exact listTo_congr fun x hx => unit_rel h hx
theorem TabG.el {m : Nat} {ln : List Nat} (h : TabOk m ln) {x : Int} (hx : x ∈ idemF (m : Nat) (ln.map Int.ofNat)) : ∃ j : Nat, x = (j : Int) ∧ j < m ∧ RegE m ln j (mgF (m : Nat) (ln.map Int.ofNat) x) := by
  obtain ⟨e1, e2, e3, e4⟩ := TabG.forms h
  rw [e1] at hx
  obtain ⟨j, rfl, hj, hi⟩ := (listTo_mem _ _ _).1 hx
  refine ⟨j, rfl, hj, ?_⟩
  rw [e4 j hj hi]
  have hee : tm m ln j j = j := by simpa [idemB] using hi
  refine ⟨fun y hy => ?_, fun i k hi hk => ?_, fun i hi => ?_⟩
  · obtain ⟨k, rfl, hk, hr⟩ := (listTo_mem _ _ _).1 hy
    exact ⟨k, rfl, hk, (rel_unit h hj hee hk hr).1⟩
  · obtain ⟨h1, h2⟩ := listTo_at.1 hi
    obtain ⟨h3, h4⟩ := listTo_at.1 hk
    exact listTo_at.2 ⟨h.tm_lt h1 h3, rel_prod h hj hee h1 h3 h2 h4⟩
  · obtain ⟨h1, h2⟩ := listTo_at.1 hi
    obtain ⟨z, hz, h3, h4⟩ := rel_inv h hj hee h1 h2
    exact ⟨z, listTo_at.2 ⟨hz, h3⟩, h4⟩
end Go.Proofs.YtmgdglghjlggnaaGreat
namespace Go.Proofs.YtmgdglghjlggnaaGreat
open Go.RowKit
set_option linter.unusedVariables false
set_option linter.unusedSectionVars false

/-! numbers of classes -/
/-- an equivalence, as a function -/
structure EqvB (p : Nat → Nat → Bool) : Prop where
  refl : ∀ i, p i i = true
  same : ∀ i k, p i k = true → p i = p k
/-! ideals -/
section
variable {m : Nat} {ln : List Nat}
variable (h : TabOk m ln)
include h
end
section
variable {m : Nat} {ln : List Nat} (h : TabOk m ln)
include h
end
section
variable {m : Nat} {ln : List Nat} (h : TabOk m ln)
include h
end
end Go.Proofs.YtmgdglghjlggnaaGreat
namespace Go.Proofs.YtmgdglghjlggnaaGreat
open Go.RowKit
set_option linter.unusedVariables false
end Go.Proofs.YtmgdglghjlggnaaGreat
namespace Go.Proofs.YtmgdglghjlggnaaGreat
open Go.RowKit
set_option linter.unusedVariables false
set_option linter.unusedSectionVars false
end Go.Proofs.YtmgdglghjlggnaaGreat
namespace Go.Proofs.YtmgdglghjlggnaaGreat
open Go.RowKit
set_option linter.unusedVariables false
set_option linter.unusedSectionVars false
/-- a row of a table that is told by its products -/
def rowN (f : Nat → Nat → Nat) (i k : Nat) : List Nat := (List.range k).map (f i)
def rowsN (m : Nat) (f : Nat → Nat → Nat) (i : Nat) : List Nat := (List.range i).flatMap fun i => rowN f i m
def mkT (m : Nat) (f : Nat → Nat → Nat) : List Nat := rowsN m f m
theorem rowN_len (f : Nat → Nat → Nat) (i k : Nat) : (rowN f i k).length = k := by simp [rowN]
theorem rowsN_succ (m : Nat) (f : Nat → Nat → Nat) (i : Nat) : rowsN m f (i + 1) = rowsN m f i ++ rowN f i m := by simp [rowsN, List.range_succ, List.flatMap_append]
theorem rowsN_zero (m : Nat) (f : Nat → Nat → Nat) : rowsN m f 0 = [] := rfl
theorem rowsN_len (m : Nat) (f : Nat → Nat → Nat) : ∀ i, (rowsN m f i).length = i * m
  | 0 => by simp [rowsN_zero]
  | i + 1 => by rw [rowsN_succ, List.length_append, rowsN_len m f i, rowN_len, Nat.add_mul]; omega
theorem mkT_len (m : Nat) (f : Nat → Nat → Nat) : (mkT m f).length = m * m := rowsN_len m f m
theorem rowsN_at {m : Nat} {f : Nat → Nat → Nat} {i k : Nat} (hk : k < m) : ∀ {c : Nat}, i < c → (rowsN m f c).getD (i * m + k) 0 = f i k
  | 0, hi => by omega
  | c + 1, hi => by
    rw [rowsN_succ, List.getD_eq_getElem?_getD]
    by_cases h : i < c
    · have hlt : i * m + k < (rowsN m f c).length := by
        rw [rowsN_len]
        have := Nat.mul_le_mul_right m (show i + 1 ≤ c from h)
        rw [Nat.add_mul] at this
        omega
      rw [List.getElem?_append_left hlt, ← List.getD_eq_getElem?_getD]
      exact rowsN_at hk h
    · obtain rfl : i = c := by omega
      rw [List.getElem?_append_right (by rw [rowsN_len]; omega), rowsN_len, show i * m + k - i * m = k by omega]
      simp [rowN, hk]
theorem mkT_at {m : Nat} {f : Nat → Nat → Nat} {i k : Nat} (hi : i < m) (hk : k < m) : tm m (mkT m f) i k = f i k := rowsN_at hk hi
theorem rowsN_mem {m : Nat} {f : Nat → Nat → Nat} {c x : Nat} (h : x ∈ rowsN m f c) : ∃ i k, i < c ∧ k < m ∧ x = f i k := by
  unfold rowsN rowN at h
  obtain ⟨i, hi, h⟩ := List.mem_flatMap.1 h
  obtain ⟨k, hk, rfl⟩ := List.mem_map.1 h
  exact ⟨i, k, List.mem_range.1 hi, List.mem_range.1 hk, rfl⟩
theorem mkT_ok {m : Nat} {f : Nat → Nat → Nat} (h1 : 1 ≤ m) (h2 : m ≤ 40) (hr : ∀ i k, i < m → k < m → f i k < m) (hl : ∀ i, i < m → f 0 i = i) (hrt : ∀ i, i < m → f i 0 = i) (ha : ∀ i j k, i < m → j < m → k < m → f (f i j) k = f i (f j k)) : TabOk m (mkT m f) := by
  refine ⟨⟨h1, h2, mkT_len m f, fun x hx => ?_⟩, fun i hi => ?_, fun i hi => ?_, fun i j k hi hj hk => ?_⟩
  · obtain ⟨i, k, hi, hk, rfl⟩ := rowsN_mem hx; exact hr i k hi hk
  · rw [mkT_at (by omega) hi, hl i hi]
  · rw [mkT_at hi (by omega), hrt i hi]
  · rw [mkT_at hi hj, mkT_at hj hk, mkT_at (hr i j hi hj) hk, mkT_at hi (hr j k hj hk), ha i j k hi hj hk]

/-! ### the product of two tables -/
def prdF (m : Nat) (ln : List Nat) (n : Nat) (rn : List Nat) (i k : Nat) : Nat := tm m ln (i / n) (k / n) * n + tm n rn (i % n) (k % n)
def prodT (m : Nat) (ln : List Nat) (n : Nat) (rn : List Nat) : List Nat := mkT (m * n) (prdF m ln n rn)
section
variable {m n : Nat} {ln rn : List Nat} (h : TabOk m ln) (h' : TabOk n rn)
include h h'
theorem div_lt' {i : Nat} (hi : i < m * n) : i / n < m ∧ i % n < n := ⟨Nat.div_lt_of_lt_mul (by rw [Nat.mul_comm]; exact hi), Nat.mod_lt _ h'.lo⟩
theorem two_lt {a b : Nat} (ha : a < m) (hb : b < n) : a * n + b < m * n := by
  have := Nat.mul_le_mul_right n (show a + 1 ≤ m from ha)
  rw [Nat.add_mul] at this
  omega
theorem prdF_lt {i k : Nat} (hi : i < m * n) (hk : k < m * n) : prdF m ln n rn i k < m * n := by
  obtain ⟨a1, a2⟩ := div_lt' h h' hi
  obtain ⟨b1, b2⟩ := div_lt' h h' hk
  exact two_lt h h' (h.tm_lt a1 b1) (h'.tm_lt a2 b2)
theorem prdF_parts {i k : Nat} (hi : i < m * n) (hk : k < m * n) : prdF m ln n rn i k / n = tm m ln (i / n) (k / n) ∧ prdF m ln n rn i k % n = tm n rn (i % n) (k % n) := by
  obtain ⟨a1, a2⟩ := div_lt' h h' hi
  obtain ⟨b1, b2⟩ := div_lt' h h' hk
  have hlt := h'.tm_lt a2 b2
  have hn := h'.lo
  unfold prdF
  constructor
  · rw [Nat.mul_comm, Nat.mul_add_div (by omega), Nat.div_eq_of_lt hlt]; rfl
  · rw [Nat.mul_comm, Nat.mul_add_mod, Nat.mod_eq_of_lt hlt]
theorem prod_ok (hm : m * n ≤ 40) : TabOk (m * n) (prodT m ln n rn) := by
  have hm1 := h.lo
  have hn1 := h'.lo
  refine mkT_ok (Nat.mul_pos h.lo h'.lo) hm (fun i k hi hk => prdF_lt h h' hi hk) (fun i hi => ?_) (fun i hi => ?_) (fun i j k hi hj hk => ?_)
  · obtain ⟨a1, a2⟩ := div_lt' h h' hi
    unfold prdF
    rw [Nat.zero_div, Nat.zero_mod, h.left _ a1, h'.left _ a2, Nat.mul_comm]
    exact Nat.div_add_mod i n
  · obtain ⟨a1, a2⟩ := div_lt' h h' hi
    unfold prdF
    rw [Nat.zero_div, Nat.zero_mod, h.right _ a1, h'.right _ a2, Nat.mul_comm]
    exact Nat.div_add_mod i n
  · obtain ⟨a1, a2⟩ := div_lt' h h' hi
    obtain ⟨b1, b2⟩ := div_lt' h h' hj
    obtain ⟨c1, c2⟩ := div_lt' h h' hk
    obtain ⟨p1, p2⟩ := prdF_parts h h' hi hj
    obtain ⟨q1, q2⟩ := prdF_parts h h' hj hk
    have e1 : prdF m ln n rn (prdF m ln n rn i j) k = tm m ln (tm m ln (i / n) (j / n)) (k / n) * n + tm n rn (tm n rn (i % n) (j % n)) (k % n) := by
      rw [prdF.eq_def m ln n rn (prdF m ln n rn i j) k, p1, p2]
    have e2 : prdF m ln n rn i (prdF m ln n rn j k) = tm m ln (i / n) (tm m ln (j / n) (k / n)) * n + tm n rn (i % n) (tm n rn (j % n) (k % n)) := by
      rw [prdF.eq_def m ln n rn i (prdF m ln n rn j k), q1, q2]
    rw [e1, e2, h.assoc _ _ _ a1 b1 c1, h'.assoc _ _ _ a2 b2 c2]
theorem prod_two {i k a b : Nat} (hi : i < m * n) (hk : k < m * n) (ha : a < m) (hb : b < n) : prdF m ln n rn i k = a * n + b ↔ tm m ln (i / n) (k / n) = a ∧ tm n rn (i % n) (k % n) = b := by
  obtain ⟨p1, p2⟩ := prdF_parts h h' hi hk
  have hn := h'.lo
  constructor
  · intro e
    rw [e] at p1 p2
    rw [Nat.mul_comm, Nat.mul_add_div (by omega), Nat.div_eq_of_lt hb] at p1
    rw [Nat.mul_comm, Nat.mul_add_mod, Nat.mod_eq_of_lt hb] at p2
    exact ⟨by rw [← p1]; rfl, p2.symm⟩
  · rintro ⟨e1, e2⟩
    unfold prdF
    rw [e1, e2]
end
theorem uni_iff {m : Nat} {ln : List Nat} {i : Nat} : isUnit m ln i = true ↔ ∃ k, k < m ∧ tm m ln i k = 0 ∧ tm m ln k i = 0 := by
  unfold isUnit
  rw [Bool.not_eq_true']
  constructor
  · intro hf
    rcases Classical.em (∃ k, k < m ∧ tm m ln i k = 0 ∧ tm m ln k i = 0) with h1 | h1
    · exact h1
    · exfalso
      rw [Bool.eq_false_iff] at hf
      refine hf (all_range.2 fun k hk => ?_)
      cases hb : unB m ln i k
      · exfalso
        unfold unB at hb
        simp at hb
        exact h1 ⟨k, hk, hb.1, hb.2⟩
      · rfl
  · rintro ⟨k, hk, h1, h2⟩
    refine all_range_false hk ?_
    unfold unB
    simp [h1, h2]
theorem listTo_add (f : Nat → Bool) (a : Nat) : ∀ b, (listTo f (a + b)).length = (listTo f a).length + (listTo (fun x => f (a + x)) b).length
  | 0 => by simp [listTo]
  | b + 1 => by
    rw [show a + (b + 1) = (a + b) + 1 by omega]
    cases hf : f (a + b)
    · rw [listTo_no hf, listTo_no (f := fun x => f (a + x)) hf, listTo_add f a b]
    · rw [listTo_yes hf, listTo_yes (f := fun x => f (a + x)) hf, List.length_append, List.length_append, listTo_add f a b]; simp; omega
theorem count_pair (P Q : Nat → Bool) {n : Nat} (hn : 0 < n) : ∀ m, (listTo (fun x => P (x / n) && Q (x % n)) (m * n)).length = (listTo P m).length * (listTo Q n).length
  | 0 => by simp [listTo]
  | m + 1 => by
    rw [Nat.add_mul, Nat.one_mul, listTo_add, count_pair P Q hn m]
    have e : listTo (fun x => P ((m * n + x) / n) && Q ((m * n + x) % n)) n = listTo (fun x => P m && Q x) n := listTo_congr fun x hx => by
      rw [Nat.mul_comm m n, Nat.mul_add_div hn, Nat.div_eq_of_lt hx, Nat.mul_add_mod, Nat.mod_eq_of_lt hx]; rfl
    rw [e]
    cases hp : P m
    · rw [listTo_no hp]
      have e2 : (listTo (fun x => false && Q x) n).length = 0 := by simp [listTo]
      rw [e2]; omega
    · rw [listTo_yes hp, List.length_append, List.length_singleton, Nat.add_mul]
      have e2 : listTo (fun x => true && Q x) n = listTo Q n := listTo_congr fun x hx => by rw [Bool.true_and]
      rw [e2]; omega
section
variable {m n : Nat} {ln rn : List Nat} (h : TabOk m ln) (h' : TabOk n rn)
include h h'
theorem prod_idem : (listTo (idemB (m * n) (prodT m ln n rn)) (m * n)).length = (listTo (idemB m ln) m).length * (listTo (idemB n rn) n).length := by
  rw [← count_pair (idemB m ln) (idemB n rn) h'.lo]
  congr 1
  refine listTo_congr fun x hx => ?_
  obtain ⟨a1, a2⟩ := div_lt' h h' hx
  have e : x = x / n * n + x % n := by rw [Nat.mul_comm]; exact (Nat.div_add_mod x n).symm
  have key : prdF m ln n rn x x = x ↔ tm m ln (x / n) (x / n) = x / n ∧ tm n rn (x % n) (x % n) = x % n := by
    have := prod_two h h' hx hx a1 a2
    rwa [← e] at this
  rw [Bool.eq_iff_iff, Bool.and_eq_true]
  unfold idemB prodT
  rw [mkT_at hx hx]
  simp only [decide_eq_true_eq]
  exact key
theorem prod_unit : (listTo (isUnit (m * n) (prodT m ln n rn)) (m * n)).length = (listTo (isUnit m ln) m).length * (listTo (isUnit n rn) n).length := by
  rw [← count_pair (isUnit m ln) (isUnit n rn) h'.lo]
  congr 1
  refine listTo_congr fun x hx => ?_
  obtain ⟨a1, a2⟩ := div_lt' h h' hx
  rw [Bool.eq_iff_iff, Bool.and_eq_true, uni_iff, uni_iff, uni_iff]
  have hz : ∀ i k, i < m * n → k < m * n → (tm (m * n) (prodT m ln n rn) i k = 0 ↔ tm m ln (i / n) (k / n) = 0 ∧ tm n rn (i % n) (k % n) = 0) := fun i k hi hk => by
    unfold prodT
    rw [mkT_at hi hk]
    have := prod_two h h' hi hk h.lo h'.lo
    rw [Nat.zero_mul, Nat.zero_add] at this
    exact this
  constructor
  · rintro ⟨k, hk, e1, e2⟩
    obtain ⟨b1, b2⟩ := div_lt' h h' hk
    obtain ⟨f1, f2⟩ := (hz x k hx hk).1 e1
    obtain ⟨g1, g2⟩ := (hz k x hk hx).1 e2
    exact ⟨⟨k / n, b1, f1, g1⟩, k % n, b2, f2, g2⟩
  · rintro ⟨⟨a, ha, f1, g1⟩, b, hb, f2, g2⟩
    have hn := h'.lo
    have hab := two_lt h h' ha hb
    have d1 : (a * n + b) / n = a := by rw [Nat.mul_comm, Nat.mul_add_div (by omega), Nat.div_eq_of_lt hb]; rfl
    have d2 : (a * n + b) % n = b := by rw [Nat.mul_comm, Nat.mul_add_mod, Nat.mod_eq_of_lt hb]
    exact ⟨a * n + b, hab, (hz _ _ hx hab).2 (by rw [d1, d2]; exact ⟨f1, f2⟩), (hz _ _ hab hx).2 (by rw [d1, d2]; exact ⟨g1, g2⟩)⟩
end

/-! ### powers -/
section
variable {m : Nat} {ln : List Nat} (h : TabOk m ln)
include h
end
end Go.Proofs.YtmgdglghjlggnaaGreat
namespace Go.Proofs.YtmgdglghjlggnaaGreat
open Go.RowKit
set_option linter.unusedVariables false
end Go.Proofs.YtmgdglghjlggnaaGreat
namespace Go.Proofs.YtmgdglghjlggnaaGreat
open Go.RowKit Go.Sort
set_option linter.unusedVariables false
end Go.Proofs.YtmgdglghjlggnaaGreat
namespace Go.Proofs.YtmgdglghjlggnaaGreat
open Go.RowKit
set_option linter.unusedVariables false
end Go.Proofs.YtmgdglghjlggnaaGreat
namespace Go.Proofs.YtmgdglghjlggnaaGreat
open Go.RowKit
set_option linter.unusedVariables false
/-- rows of integers in memory of the call's own -/
def RowsAt (wr : World) (g : Nat) (key : Nat → List Int) (vals : List Value) : Prop :=
  ∀ j, j < vals.length → ∃ a cap, vals[j]? = some (.slice a (key j).length cap) ∧ wr.ownsRow (g + 1) 3 1 (.slice a (key j).length cap) (key j).length (intVals (key j))
section
variable {w wr : World} {g : Nat} {v : Value} {c : Nat} {key : Nat → List Int} {vals : List Value}
theorem RowsAt.later {w' : World} (h : RowsAt wr g key vals) (hb : Below wr.heap.size wr w') : RowsAt w' g key vals := fun j hj => by
  obtain ⟨a, cap, h1, h2⟩ := h j hj
  exact ⟨a, cap, h1, owns_later h2 hb⟩
end
end Go.Proofs.YtmgdglghjlggnaaGreat
namespace Go.Proofs.YtmgdglghjlggnaaGreat
open Go.RowKit
set_option linter.unusedVariables false
end Go.Proofs.YtmgdglghjlggnaaGreat
namespace Go.Proofs.YtmgdglghjlggnaaGreat
open Go.RowKit
set_option linter.unusedVariables false
end Go.Proofs.YtmgdglghjlggnaaGreat
namespace Go.Proofs.YtmgdglghjlggnaaGreat
open Go.RowKit
set_option linter.unusedVariables false
theorem TabG.nats {m : Nat} {l : List Int} (h : TabG m l) : TabOk m (l.map Int.toNat) ∧ (∀ w a, IntsIn w a l → NatsIn w a (l.map Int.toNat)) ∧ l.length = m * m := by
  obtain ⟨ln, rfl, h⟩ := h
  rw [map_toNat]
  exact ⟨h, fun w a h => h, by rw [List.length_map]; exact h.len⟩
theorem TabG.few {m : Nat} {l : List Int} (h : TabG m l) : l.length ≤ 1600 ∧ 1 ≤ m ∧ m ≤ 40 := by
  have h1 := h.nats
  exact ⟨by rw [h1.2.2]; exact sq_le h1.1.hi, h1.1.lo, h1.1.hi⟩
end Go.Proofs.YtmgdglghjlggnaaGreat
namespace Go.Proofs.YtmgdglghjlggnaaGreat
open Go.RowKit
set_option linter.unusedVariables false
theorem idemF_tab {m : Nat} {l : List Int} (h : TabG m l) : idemF (m : Nat) l = listTo (idemB m (l.map Int.toNat)) m := by
  unfold idemF thoseL listTo
  rw [h.tab]
  rfl
theorem unitsF_tab {m : Nat} {l : List Int} (h : TabG m l) : unitsOfF (m : Nat) l = listTo (isUnit m (l.map Int.toNat)) m := by
  unfold unitsOfF thoseL listTo
  rw [h.tab]
  rfl
theorem map_nat (ln : List Nat) : (ln.map Int.ofNat).map Int.toNat = ln := by
  rw [List.map_map]
  exact List.map_id'' (fun x => rfl) ln
section
variable {m n : Nat} {l r : List Int} (h : TabG m l) (h' : TabG n r)
include h h'
theorem TabG.prod (hm : m * n ≤ 40) : TabG (m * n) ((prodT m (l.map Int.toNat) n (r.map Int.toNat)).map Int.ofNat) := ⟨_, rfl, prod_ok h.nats.1 h'.nats.1 hm⟩
theorem TabG.prod_idem (hm : m * n ≤ 40) : (idemF ((m * n : Nat) : Int) ((prodT m (l.map Int.toNat) n (r.map Int.toNat)).map Int.ofNat)).length = (idemF (m : Nat) l).length * (idemF (n : Nat) r).length := by
  rw [idemF_tab (TabG.prod h h' hm), idemF_tab h, idemF_tab h', map_nat]
  exact Go.Proofs.YtmgdglghjlggnaaGreat.prod_idem h.nats.1 h'.nats.1
theorem TabG.prod_unit (hm : m * n ≤ 40) : (unitsOfF ((m * n : Nat) : Int) ((prodT m (l.map Int.toNat) n (r.map Int.toNat)).map Int.ofNat)).length = (unitsOfF (m : Nat) l).length * (unitsOfF (n : Nat) r).length := by
  rw [unitsF_tab (TabG.prod h h' hm), unitsF_tab h, unitsF_tab h', map_nat]
  exact Go.Proofs.YtmgdglghjlggnaaGreat.prod_unit h.nats.1 h'.nats.1
end
end Go.Proofs.YtmgdglghjlggnaaGreat
