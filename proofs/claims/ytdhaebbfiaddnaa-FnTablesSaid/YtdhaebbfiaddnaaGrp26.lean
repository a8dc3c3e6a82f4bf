/-
  Ideals of a table, related elements and their classes, as plain data.
-/
import Derived.Test.YtdhaebbfiaddnaaGrp25
import Derived.Test.YtdhaebbfiaddnaaGrp02
import Derived.Test.YtdhaebbfiaddnaaGrp22
import Derived.Lib.SlicesCompact
namespace Go.Proofs.Ytdhaebbfiaddnaa
open Go.RowKit
set_option linter.unusedVariables false
/-- a function value that answers p for two elements below m, in every world that is as w below B -/
def PredEl2 (B : Nat) (g : Nat) (caps : Array Value) (p : Nat → Nat → Bool) (m : Nat) (w : World) : Prop :=
  ∀ i k, i < m → k < m → ∀ W, Below B w W → Calls Try.prog g (#[.int .i64 (i : Nat), .int .i64 (k : Nat)] ++ caps) W fun e W' => e = .returned (.bool (p i k)) ∧ Below W.heap.size W W'
/-- the elements below c that began a class -/
def numF (p : Nat → Nat → Bool) : Nat → List Nat
  | 0 => []
  | c + 1 => if (numF p c).any (p c) then numF p c else numF p c ++ [c]
/-- the place of the first class, or -1 -/
def numI (p : Nat → Nat → Bool) (F : List Nat) (j : Nat) : Int := match F.findIdx? (p j) with | some i => (i : Nat) | none => -1
/-- the number that is given -/
def numV (p : Nat → Nat → Bool) (F : List Nat) (j : Nat) : Int := if numI p F j < 0 then ((F.length : Nat) : Int) else numI p F j
def numO (p : Nat → Nat → Bool) (c : Nat) : List Int := (List.range c).map fun j => numV p (numF p j) j
theorem numO_zero (p : Nat → Nat → Bool) : numO p 0 = [] := rfl
theorem numO_succ (p : Nat → Nat → Bool) (c : Nat) : numO p (c + 1) = numO p c ++ [numV p (numF p c) c] := by simp [numO, List.range_succ]
theorem numO_len (p : Nat → Nat → Bool) (c : Nat) : (numO p c).length = c := by simp [numO]
theorem numF_lt (p : Nat → Nat → Bool) : ∀ c, ∀ f ∈ numF p c, f < c
  | 0, f, hf => by simp [numF] at hf
  | c + 1, f, hf => by
    unfold numF at hf
    split at hf
    · have := numF_lt p c f hf; omega
    · rcases List.mem_append.1 hf with hf | hf
      · have := numF_lt p c f hf; omega
      · rw [List.mem_singleton.1 hf]; omega
theorem numF_len (p : Nat → Nat → Bool) : ∀ c, (numF p c).length ≤ c
  | 0 => by simp [numF]
  | c + 1 => by
    have := numF_len p c
    unfold numF
    split
    · omega
    · rw [List.length_append]; simp; omega
theorem numI_neg (p : Nat → Nat → Bool) (F : List Nat) (j : Nat) : (numI p F j < 0) ↔ F.any (p j) = false := by
  unfold numI
  cases h : F.findIdx? (p j)
  · rw [List.findIdx?_eq_none_iff] at h
    have : F.any (p j) = false := by rw [List.any_eq_false]; intro x hx; simp [h x hx]
    simp [this]
  · rename_i i
    rw [List.findIdx?_eq_some_iff_getElem] at h
    obtain ⟨hi, hp, _⟩ := h
    have : F.any (p j) = true := by rw [List.any_eq_true]; exact ⟨F[i], List.getElem_mem hi, hp⟩
    simp [this]
theorem numF_succ (p : Nat → Nat → Bool) (c : Nat) : numF p (c + 1) = if (numF p c).any (p c) then numF p c else numF p c ++ [c] := rfl
theorem numF_yes {p : Nat → Nat → Bool} {c : Nat} (h : ¬ numI p (numF p c) c < 0) : numF p (c + 1) = numF p c := by
  rw [numI_neg] at h
  have h2 : (numF p c).any (p c) = true := by cases hh : (numF p c).any (p c) <;> simp_all
  rw [numF_succ, if_pos h2]
theorem numF_no {p : Nat → Nat → Bool} {c : Nat} (h : numI p (numF p c) c < 0) : numF p (c + 1) = numF p c ++ [c] := by
  rw [numI_neg] at h
  rw [numF_succ, if_neg (by simp [h])]
theorem numV_yes {p : Nat → Nat → Bool} {F : List Nat} {j : Nat} (h : ¬ numI p F j < 0) : numV p F j = numI p F j := by unfold numV; rw [if_neg h]
theorem numV_no {p : Nat → Nat → Bool} {F : List Nat} {j : Nat} (h : numI p F j < 0) : numV p F j = ((F.length : Nat) : Int) := by unfold numV; rw [if_pos h]
theorem idxZ_num (p : Nat → Nat → Bool) (F : List Nat) (c : Nat) : idxZ (fun x => p c x.toNat) (F.map Int.ofNat) = numI p F c := by
  unfold idxZ numI
  rw [List.findIdx?_map]
  rfl
theorem below_of_grownN {w wr wr' : World} {own : Option Nat} (h : Below w.heap.size w wr) (hg : wr.grownBy wr' own) (ho : ∀ k, own = some k → w.heap.size ≤ k) : Below w.heap.size w wr' := h.grown hg h.size ho
/-- two lists that are being built, apart from each other -/
def Two (w wr : World) (v : Value) (xs : List Int) (u : Value) (F : List Nat) : Prop :=
  Bld 3 1 w wr v xs.length (intVals xs) ∧ Bld 3 1 w wr u F.length (ivs F) ∧ ∀ k, v.ownBlock = some k → u.ownBlock ≠ some k
theorem Two.later {w wr wr' : World} {v u : Value} {xs : List Int} {F : List Nat} (h : Two w wr v xs u F) (hb : Below wr.heap.size wr wr') : Two w wr' v xs u F := ⟨h.1.later hb, h.2.1.later hb, h.2.2⟩
theorem kept_of {T : TypeId} {w wr wr' : World} {v : Value} {n : Nat} {xs : List Value} {own : Option Nat} (h : Bld T 1 w wr v n xs) (hg : wr.grownBy wr' own) (hne : ∀ k, v.ownBlock = some k → own ≠ some k) (ho : ∀ k, own = some k → w.heap.size ≤ k) : Bld T 1 w wr' v n xs := by
  refine ⟨h.1.kept hg ?_, below_of_grownN h.2 hg ho⟩
  cases hv : v.ownBlock with
  | none => exact .inl rfl
  | some k => exact .inr fun e => hne k hv (e.symm ▸ rfl)
theorem Two.putV {w wr w' : World} {v v' u : Value} {xs : List Int} {F : List Nat} {y : Int} (h : Two w wr v xs u F) (hb : Bld 3 1 w w' v' (xs.length + 1) (intVals xs ++ [.int .i64 y])) (hg : (wr.alloc (.cells #[.int .i64 y] 3)).grownBy w' v.ownBlock)
    (ho : v'.ownBlock = v.ownBlock ∨ v'.ownBlock = some (wr.alloc (.cells #[.int .i64 y] 3)).heap.size) : Two w w' v' (xs ++ [y]) u F := by
  have hal : Below wr.heap.size wr (wr.alloc (.cells #[.int .i64 y] 3)) := (Below.refl _ _).alloc (Nat.le_refl _) _
  refine ⟨?_, kept_of (h.2.1.later hal) hg (fun k hk e => h.2.2 k e hk) (fun k hk => (h.1.1.lt k hk).1), fun k hk e => ?_⟩
  · rw [List.length_append]; unfold intVals at *; rw [List.map_append]; exact hb
  · rcases ho with h1 | h1
    · exact h.2.2 k (h1 ▸ hk) e
    · rw [h1] at hk
      have h2 := Option.some.inj hk
      have h3 := (h.2.1.1.lt k e).2
      simp at h2; omega
theorem Two.putU {w wr w' : World} {v u u' : Value} {xs : List Int} {F : List Nat} {y : Nat} (h : Two w wr v xs u F) (hb : Bld 3 1 w w' u' (F.length + 1) (ivs F ++ [.int .i64 (y : Nat)])) (hg : (wr.alloc (.cells #[.int .i64 (y : Nat)] 3)).grownBy w' u.ownBlock)
    (ho : u'.ownBlock = u.ownBlock ∨ u'.ownBlock = some (wr.alloc (.cells #[.int .i64 (y : Nat)] 3)).heap.size) : Two w w' v xs u' (F ++ [y]) := by
  have hal : Below wr.heap.size wr (wr.alloc (.cells #[.int .i64 (y : Nat)] 3)) := (Below.refl _ _).alloc (Nat.le_refl _) _
  refine ⟨kept_of (h.1.later hal) hg (fun k hk e => h.2.2 k hk e) (fun k hk => (h.2.1.1.lt k hk).1), ?_, fun k hk e => ?_⟩
  · rw [List.length_append, ivs_app]; exact hb
  · rcases ho with h1 | h1
    · exact h.2.2 k hk (h1 ▸ e)
    · rw [h1] at e
      have h2 := Option.some.inj e
      have h3 := (h.1.1.lt k hk).2
      simp at h2; omega
section
variable {p : Nat → Nat → Bool}
theorem numF_pre : ∀ {a b : Nat}, a ≤ b → numF p a <+: numF p b
  | a, 0, h => by
    obtain rfl : a = 0 := by omega
    exact List.prefix_refl _
  | a, b + 1, h => by
    by_cases e : a = b + 1
    · subst e; exact List.prefix_refl _
    · refine (numF_pre (show a ≤ b by omega)).trans ?_
      rw [numF_succ]
      split
      · exact List.prefix_refl _
      · exact List.prefix_append _ _
theorem numI_pre {F F' : List Nat} (h : F <+: F') {j : Nat} (hq : ¬ numI p F j < 0) : numI p F' j = numI p F j := by
  obtain ⟨t, rfl⟩ := h
  unfold numI at *
  cases hf : F.findIdx? (p j)
  · rw [hf] at hq; simp at hq
  · rename_i i
    rw [List.findIdx?_append, hf]; rfl
theorem numI_app {F : List Nat} {c j : Nat} (h : numI p F j < 0) : numI p (F ++ [c]) j = if p j c = true then ((F.length : Nat) : Int) else -1 := by
  unfold numI at *
  cases hf : F.findIdx? (p j)
  · rw [List.findIdx?_append, hf]
    cases hp : p j c
    · simp [List.findIdx?_cons, hp]
    · simp [List.findIdx?_cons, hp]
  · rename_i i
    rw [hf] at h; simp at h; omega
theorem numI_full {m : Nat} (hr : ∀ i, i < m → p i i = true) {j : Nat} (hj : j < m) : numI p (numF p m) j = numV p (numF p j) j := by
  by_cases h : numI p (numF p j) j < 0
  · rw [numV_no h]
    have h1 : numI p (numF p (j + 1)) j = ((numF p j).length : Int) := by rw [numF_no h, numI_app h, if_pos (hr j hj)]
    rw [numI_pre (numF_pre (show j + 1 ≤ m from hj)) (by rw [h1]; omega), h1]
  · rw [numV_yes h]
    exact numI_pre (numF_pre (Nat.le_of_lt hj)) h
theorem numO_full {m : Nat} (hr : ∀ i, i < m → p i i = true) : numO p m = (List.range m).map (numI p (numF p m)) := by
  unfold numO
  apply List.map_congr_left
  intro j hj
  exact (numI_full hr (List.mem_range.1 hj)).symm
end
end Go.Proofs.Ytdhaebbfiaddnaa
namespace Go.Proofs.Ytdhaebbfiaddnaa
open Go.RowKit
set_option linter.unusedVariables false
theorem sorted_extZ : ∀ (l l' : List Int), l.Pairwise (· < ·) → l'.Pairwise (· < ·) → (∀ x, x ∈ l ↔ x ∈ l') → l = l'
  | [], [], _, _, _ => rfl
  | [], b :: l', _, _, h => absurd ((h b).2 (by simp)) (by simp)
  | a :: l, [], _, _, h => absurd ((h a).1 (by simp)) (by simp)
  | a :: l, b :: l', h1, h2, h => by
    rw [List.pairwise_cons] at h1 h2
    have e : a = b := by
      have ha := (h a).1 (by simp)
      have hb := (h b).2 (by simp)
      rcases List.mem_cons.1 ha with e | ha
      · exact e
      · rcases List.mem_cons.1 hb with e | hb
        · exact e.symm
        · have := h1.1 b hb; have := h2.1 a ha; omega
    subst e
    congr 1
    refine sorted_extZ l l' h1.2 h2.2 fun x => ⟨fun hx => ?_, fun hx => ?_⟩
    · rcases List.mem_cons.1 ((h x).1 (by simp [hx])) with e | hx'
      · have := h1.1 x hx; omega
      · exact hx'
    · rcases List.mem_cons.1 ((h x).2 (by simp [hx])) with e | hx'
      · have := h2.1 x hx; omega
      · exact hx'
theorem at_bang {zs : List Int} {j : Nat} (h : j < zs.length) : zs.toArray[j]! = zs[j] := by
  rw [getElem!_pos _ _ (by simpa using h)]; simp
theorem mono_at {zs : List Int} (h : zs.Pairwise (· ≤ ·)) {i j : Nat} (hij : i ≤ j) (hj : j < zs.length) : zs[i]'(by omega) ≤ zs[j] := by
  rcases Nat.lt_or_ge i j with hlt | hge
  · exact (List.pairwise_iff_getElem.1 h) i j (by omega) hj hlt
  · have : i = j := by omega
    subst this; exact Int.le_refl _
theorem compact_lt {zs : List Int} (h : zs.Pairwise (· ≤ ·)) : (Go.Lib.compact zs).Pairwise (· < ·) := by
  unfold Go.Lib.compact Go.Lib.compactUpTo
  rw [List.pairwise_map]
  have h0 : ((List.range zs.length).filter (Go.Lib.keeps zs.toArray)).Pairwise (· < ·) := List.Pairwise.filter _ List.pairwise_lt_range
  refine List.Pairwise.imp_of_mem (fun {i j} hi hj hij => ?_) h0
  have hi' := List.mem_filter.1 hi
  have hj' := List.mem_filter.1 hj
  have hjl := List.mem_range.1 hj'.1
  have hk : zs.toArray[j]! ≠ zs.toArray[j - 1]! := by
    have := hj'.2
    simp only [Go.Lib.keeps, decide_eq_true_eq] at this
    rcases this with e | e
    · omega
    · exact e
  rw [at_bang (by omega), at_bang (by omega)] at hk ⊢
  have h1 := mono_at h (i := i) (j := j - 1) (by omega) (by omega)
  have h2 := mono_at h (i := j - 1) (j := j) (by omega) (by omega)
  omega
theorem compact_mem (zs : List Int) (x : Int) : x ∈ Go.Lib.compact zs ↔ x ∈ zs := by
  unfold Go.Lib.compact Go.Lib.compactUpTo
  constructor
  · intro h
    obtain ⟨i, hi, rfl⟩ := List.mem_map.1 h
    have := List.mem_range.1 (List.mem_filter.1 hi).1
    rw [at_bang this]
    exact List.getElem_mem this
  · intro h
    have key : ∀ i, i < zs.length → zs.toArray[i]! ∈ List.map (zs.toArray[·]!) ((List.range zs.length).filter (Go.Lib.keeps zs.toArray)) := by
      intro i
      induction i with
      | zero => exact fun h => List.mem_map.2 ⟨0, List.mem_filter.2 ⟨List.mem_range.2 h, by simp [Go.Lib.keeps]⟩, rfl⟩
      | succ i ih =>
        intro hi
        by_cases he : zs.toArray[i + 1]! = zs.toArray[i]!
        · rw [he]; exact ih (by omega)
        · exact List.mem_map.2 ⟨i + 1, List.mem_filter.2 ⟨List.mem_range.2 hi, by simp only [Go.Lib.keeps, decide_eq_true_eq]; exact .inr he⟩, rfl⟩
    obtain ⟨i, hi, rfl⟩ := List.getElem_of_mem h
    rw [← at_bang hi]
    exact key i hi
def sortL (l : List Int) : List Int := l.mergeSort fun x y => decide (x ≤ y)
def collL (l : List Int) : List Int := Go.Lib.compact (sortL l)
theorem sortL_len (l : List Int) : (sortL l).length = l.length := by simp [sortL]
theorem sortL_le (l : List Int) : (sortL l).Pairwise (· ≤ ·) := by
  have := List.pairwise_mergeSort (le := fun x y : Int => decide (x ≤ y)) (fun a b c h1 h2 => by simp at *; omega) (fun a b => by simp; omega) l
  exact this.imp fun h => by simpa using h
theorem sortL_mem (l : List Int) (x : Int) : x ∈ sortL l ↔ x ∈ l := by unfold sortL; exact List.mem_mergeSort
theorem listTo_lt (f : Nat → Bool) (m : Nat) : (listTo f m).Pairwise (· < ·) := by
  unfold listTo
  rw [List.pairwise_map]
  exact (List.Pairwise.filter _ List.pairwise_lt_range).imp fun h => by simpa using h
theorem listTo_mem (f : Nat → Bool) (m : Nat) (x : Int) : x ∈ listTo f m ↔ ∃ j : Nat, x = j ∧ j < m ∧ f j = true := by
  unfold listTo
  simp only [List.mem_map, List.mem_filter, List.mem_range, Int.ofNat_eq_natCast]
  constructor
  · rintro ⟨j, h, rfl⟩; exact ⟨j, rfl, h⟩
  · rintro ⟨j, rfl, h⟩; exact ⟨j, h, rfl⟩
theorem collL_eq {l : List Int} {m : Nat} {f : Nat → Bool} (h : ∀ x ∈ l, ∃ j : Nat, x = j ∧ j < m) (hf : ∀ j, j < m → (f j = true ↔ (j : Int) ∈ l)) : collL l = listTo f m := by
  refine sorted_extZ _ _ (compact_lt (sortL_le l)) (listTo_lt f m) fun x => ?_
  rw [collL, compact_mem, sortL_mem, listTo_mem]
  constructor
  · intro hx
    obtain ⟨j, rfl, hj⟩ := h x hx
    exact ⟨j, rfl, hj, (hf j hj).2 hx⟩
  · rintro ⟨j, rfl, hj, hx⟩
    exact (hf j hj).1 hx
theorem collL_len (l : List Int) : (collL l).length ≤ l.length := by
  unfold collL Go.Lib.compact Go.Lib.compactUpTo
  rw [List.length_map]
  exact Nat.le_trans (List.length_filter_le _ _) (by simp [sortL])
end Go.Proofs.Ytdhaebbfiaddnaa
namespace Go.Proofs.Ytdhaebbfiaddnaa
open Go.RowKit
set_option linter.unusedVariables false
/-- x is a product of i and one of the first c elements -/
def idR (m : Nat) (ln : List Nat) (i c x : Nat) : Bool := (List.range c).any fun y => decide (tm m ln i y = x)
def idL (m : Nat) (ln : List Nat) (i c x : Nat) : Bool := (List.range c).any fun y => decide (tm m ln y i = x)
def idI (m : Nat) (ln : List Nat) (i y d x : Nat) : Bool := (List.range d).any fun z => decide (tm m ln (tm m ln y i) z = x)
def idB (m : Nat) (ln : List Nat) (i c x : Nat) : Bool := (List.range c).any fun y => idI m ln i y m x
def idBI (m : Nat) (ln : List Nat) (i c d x : Nat) : Bool := idB m ln i c x || idI m ln i c d x
/-- x lies in the ideal of i: of kind 1, 2, or any other -/
def inId (m : Nat) (ln : List Nat) (kind : Int) (i x : Nat) : Bool := if kind = 1 then idR m ln i m x else if kind = 2 then idL m ln i m x else idB m ln i m x
section
variable {m : Nat} {ln : List Nat}
theorem any_succ (p : Nat → Bool) (c : Nat) : (List.range (c + 1)).any p = ((List.range c).any p || p c) := by simp [List.range_succ]
theorem idR_zero (i x : Nat) : idR m ln i 0 x = false := rfl
theorem idL_zero (i x : Nat) : idL m ln i 0 x = false := rfl
theorem idB_zero (i x : Nat) : idB m ln i 0 x = false := rfl
theorem idBI_zero (i c x : Nat) : idBI m ln i c 0 x = idB m ln i c x := by simp [idBI, idI]
theorem idR_succ (i c x : Nat) : (if x = tm m ln i c then true else idR m ln i c x) = idR m ln i (c + 1) x := by
  unfold idR; rw [any_succ]
  by_cases h : x = tm m ln i c
  · subst h; simp
  · have : ¬ tm m ln i c = x := fun e => h e.symm
    simp [h, this]
theorem idL_succ (i c x : Nat) : (if x = tm m ln c i then true else idL m ln i c x) = idL m ln i (c + 1) x := by
  unfold idL; rw [any_succ]
  by_cases h : x = tm m ln c i
  · subst h; simp
  · have : ¬ tm m ln c i = x := fun e => h e.symm
    simp [h, this]
theorem idBI_succ (i c d x : Nat) : (if x = tm m ln (tm m ln c i) d then true else idBI m ln i c d x) = idBI m ln i c (d + 1) x := by
  unfold idBI idI; rw [any_succ]
  by_cases h : x = tm m ln (tm m ln c i) d
  · subst h; simp
  · have : ¬ tm m ln (tm m ln c i) d = x := fun e => h e.symm
    simp [h, this]
theorem idBI_full (i c x : Nat) : idBI m ln i c m x = idB m ln i (c + 1) x := by
  unfold idBI idB; rw [any_succ]
theorem inId_1 (i x : Nat) : inId m ln 1 i x = idR m ln i m x := rfl
theorem inId_2 (i x : Nat) : inId m ln 2 i x = idL m ln i m x := rfl
theorem inId_3 {kind : Int} (h1 : kind ≠ 1) (h2 : kind ≠ 2) (i x : Nat) : inId m ln kind i x = idB m ln i m x := by unfold inId; rw [if_neg h1, if_neg h2]
/-- the elements of an ideal -/
def idLs (m : Nat) (ln : List Nat) (kind : Int) (i : Nat) : List Int := listTo (inId m ln kind i) m
theorem idLs_len (kind : Int) (i : Nat) : (idLs m ln kind i).length ≤ m := listTo_len _ _
theorem idLs_nn {kind : Int} {i : Nat} {x : Int} (h : x ∈ idLs m ln kind i) : 0 ≤ x := by
  obtain ⟨j, rfl, _⟩ := (listTo_mem _ _ _).1 h
  omega
/-- the products that the program lists -/
def prR (m : Nat) (ln : List Nat) (i c : Nat) : List Int := (List.range c).map fun y => ((tm m ln i y : Nat) : Int)
def prL (m : Nat) (ln : List Nat) (i c : Nat) : List Int := (List.range c).map fun y => ((tm m ln y i : Nat) : Int)
def prI (m : Nat) (ln : List Nat) (i y d : Nat) : List Int := (List.range d).map fun z => ((tm m ln (tm m ln y i) z : Nat) : Int)
def prB (m : Nat) (ln : List Nat) (i c d : Nat) : List Int := ((List.range c).flatMap fun y => prI m ln i y m) ++ prI m ln i c d
theorem prR_succ (i c : Nat) : prR m ln i (c + 1) = prR m ln i c ++ [((tm m ln i c : Nat) : Int)] := by simp [prR, List.range_succ]
theorem prL_succ (i c : Nat) : prL m ln i (c + 1) = prL m ln i c ++ [((tm m ln c i : Nat) : Int)] := by simp [prL, List.range_succ]
theorem prB_succ (i c d : Nat) : prB m ln i c (d + 1) = prB m ln i c d ++ [((tm m ln (tm m ln c i) d : Nat) : Int)] := by simp [prB, prI, List.range_succ]
theorem prB_full (i c : Nat) : prB m ln i c m = prB m ln i (c + 1) 0 := by simp [prB, prI, List.range_succ]
theorem prR_len (i c : Nat) : (prR m ln i c).length = c := by simp [prR]
theorem prL_len (i c : Nat) : (prL m ln i c).length = c := by simp [prL]
theorem prB_len (i c d : Nat) : (prB m ln i c d).length = c * m + d := by
  unfold prB
  rw [List.length_append]
  have h : ∀ n, ((List.range n).flatMap fun y => prI m ln i y m).length = n * m := fun n => by
    induction n with
    | zero => simp
    | succ n ih => rw [List.range_succ, List.flatMap_append, List.length_append, ih, Nat.succ_mul]; simp [prI]
  rw [h]; simp [prI]
theorem collL_R (hT : Tb m ln) {i : Nat} (hi : i < m) : collL (prR m ln i m) = idLs m ln 1 i := by
  refine collL_eq (fun x hx => ?_) (fun j hj => ?_)
  · obtain ⟨y, hy, rfl⟩ := List.mem_map.1 hx
    exact ⟨_, rfl, hT.tm_lt hi (List.mem_range.1 hy)⟩
  · rw [inId_1]
    unfold idR prR
    rw [List.any_eq_true, List.mem_map]
    constructor
    · rintro ⟨y, hy, h⟩; exact ⟨y, hy, by have := of_decide_eq_true h; omega⟩
    · rintro ⟨y, hy, h⟩; exact ⟨y, hy, decide_eq_true (by omega)⟩
theorem collL_L (hT : Tb m ln) {i : Nat} (hi : i < m) : collL (prL m ln i m) = idLs m ln 2 i := by
  refine collL_eq (fun x hx => ?_) (fun j hj => ?_)
  · obtain ⟨y, hy, rfl⟩ := List.mem_map.1 hx
    exact ⟨_, rfl, hT.tm_lt (List.mem_range.1 hy) hi⟩
  · rw [inId_2]
    unfold idL prL
    rw [List.any_eq_true, List.mem_map]
    constructor
    · rintro ⟨y, hy, h⟩; exact ⟨y, hy, by have := of_decide_eq_true h; omega⟩
    · rintro ⟨y, hy, h⟩; exact ⟨y, hy, decide_eq_true (by omega)⟩
theorem collL_B (hT : Tb m ln) {kind : Int} (h1 : kind ≠ 1) (h2 : kind ≠ 2) {i : Nat} (hi : i < m) : collL (prB m ln i m 0) = idLs m ln kind i := by
  refine collL_eq (fun x hx => ?_) (fun j hj => ?_)
  · unfold prB at hx
    simp only [prI, List.range_zero, List.map_nil, List.append_nil, List.mem_flatMap, List.mem_map, List.mem_range] at hx
    obtain ⟨y, hy, z, hz, rfl⟩ := hx
    exact ⟨_, rfl, hT.tm_lt (hT.tm_lt hy hi) hz⟩
  · rw [inId_3 h1 h2]
    unfold idB prB idI
    simp only [prI, List.range_zero, List.map_nil, List.append_nil, List.mem_flatMap, List.mem_map, List.any_eq_true, decide_eq_true_eq]
    constructor
    · rintro ⟨y, hy, z, hz, h⟩; exact ⟨y, hy, z, hz, by omega⟩
    · rintro ⟨y, hy, z, hz, h⟩; exact ⟨y, hy, z, hz, by omega⟩
end
/-- two elements are related -/
def relK (m : Nat) (ln : List Nat) (kind : Int) (i k : Nat) : Bool :=
  if kind = 4 then decide (idLs m ln 1 i = idLs m ln 1 k) && decide (idLs m ln 2 i = idLs m ln 2 k) else decide (idLs m ln kind i = idLs m ln kind k)
/-- what the program compares -/
def keyK (m : Nat) (ln : List Nat) (kind : Int) (i : Nat) : List Int := if kind = 4 then idLs m ln 1 i ++ [-1] ++ idLs m ln 2 i else idLs m ln kind i
theorem cut_eq : ∀ {a b c d : List Int}, (∀ x ∈ a, 0 ≤ x) → (∀ x ∈ c, 0 ≤ x) → a ++ -1 :: b = c ++ -1 :: d → a = c ∧ b = d
  | [], b, [], d, _, _, h => ⟨rfl, by simpa using h⟩
  | [], b, y :: c, d, _, hc, h => by
    simp only [List.nil_append, List.cons_append, List.cons.injEq] at h
    have := hc y (by simp); omega
  | x :: a, b, [], d, ha, _, h => by
    simp only [List.nil_append, List.cons_append, List.cons.injEq] at h
    have := ha x (by simp); omega
  | x :: a, b, y :: c, d, ha, hc, h => by
    simp only [List.cons_append, List.cons.injEq] at h
    obtain ⟨rfl, h⟩ := h
    obtain ⟨rfl, rfl⟩ := cut_eq (fun z hz => ha z (by simp [hz])) (fun z hz => hc z (by simp [hz])) h
    exact ⟨rfl, rfl⟩
theorem relK_key (m : Nat) (ln : List Nat) (kind : Int) (i k : Nat) : relK m ln kind i k = decide (keyK m ln kind i = keyK m ln kind k) := by
  unfold relK keyK
  by_cases h : kind = 4
  · rw [if_pos h, if_pos h, if_pos h, Bool.eq_iff_iff]
    simp only [Bool.and_eq_true, decide_eq_true_eq]
    constructor
    · rintro ⟨h1, h2⟩; rw [h1, h2]
    · intro h3
      simp only [List.append_assoc, List.cons_append, List.nil_append] at h3
      exact cut_eq (fun x hx => idLs_nn hx) (fun x hx => idLs_nn hx) h3
  · rw [if_neg h, if_neg h, if_neg h]
theorem relK_refl (m : Nat) (ln : List Nat) (kind : Int) (i : Nat) : relK m ln kind i i = true := by rw [relK_key]; simp
theorem relK_fun {m : Nat} {ln : List Nat} {kind : Int} {i k : Nat} (h : relK m ln kind i k = true) : relK m ln kind i = relK m ln kind k := by
  rw [relK_key] at h
  have := of_decide_eq_true h
  funext j
  rw [relK_key, relK_key, this]
theorem relK_four (m : Nat) (ln : List Nat) (i k : Nat) : relK m ln 4 i k = (relK m ln 1 i k && relK m ln 2 i k) := rfl
theorem relK_not4 {m : Nat} {ln : List Nat} {kind : Int} (h : kind ≠ 4) (i k : Nat) : relK m ln kind i k = decide (idLs m ln kind i = idLs m ln kind k) := by unfold relK; rw [if_neg h]
/-- the number that the reference gives, when it has come down to j -/
def clsV (p : Nat → Nat → Bool) (i j : Nat) : Int := match ((List.range i).drop j).find? (p i) with | some k => nthZ (numO p i) k | none => ((numF p i).length : Int)
theorem clsV_top (p : Nat → Nat → Bool) (i : Nat) : clsV p i i = ((numF p i).length : Int) := by
  unfold clsV
  rw [List.drop_eq_nil_of_le (by simp)]
  rfl
theorem clsV_down {p : Nat → Nat → Bool} {i j : Nat} (h : j < i) : clsV p i j = if p i j = true then nthZ (numO p i) j else clsV p i (j + 1) := by
  unfold clsV
  rw [List.drop_eq_getElem_cons (by simpa using h)]
  simp only [List.getElem_range, List.find?_cons]
  cases p i j <;> simp
theorem numI_lt (p : Nat → Nat → Bool) (F : List Nat) (j : Nat) : numI p F j < (F.length : Int) := by
  unfold numI
  cases h : F.findIdx? (p j)
  · simp; omega
  · rename_i i
    rw [List.findIdx?_eq_some_iff_getElem] at h
    obtain ⟨hi, _⟩ := h
    simp only
    omega
theorem numV_nn (p : Nat → Nat → Bool) (F : List Nat) (j : Nat) : 0 ≤ numV p F j := by
  unfold numV
  split
  · omega
  · omega
theorem numO_nth {p : Nat → Nat → Bool} {c j : Nat} (h : j < c) : nthZ (numO p c) j = numV p (numF p j) j := by
  rw [nthZ_lt (by rw [numO_len]; exact h)]
  simp [numO]
theorem clsV_zero {p : Nat → Nat → Bool} (hr : ∀ i, p i i = true) (hf : ∀ i k, p i k = true → p i = p k) (i : Nat) : clsV p i 0 = numV p (numF p i) i := by
  unfold clsV
  rw [List.drop_zero]
  cases h : (List.range i).find? (p i)
  · simp only
    rw [List.find?_eq_none] at h
    have h2 : (numF p i).any (p i) = false := by
      rw [List.any_eq_false]
      intro x hx
      exact h x (List.mem_range.2 (numF_lt p i x hx))
    rw [numV_no ((numI_neg _ _ _).2 h2)]
  · rename_i k
    simp only
    have h1 := List.find?_some h
    have h2 := List.mem_range.1 (List.mem_of_find?_eq_some h)
    rw [numO_nth h2, ← numI_full (m := i) (fun i _ => hr i) h2]
    have h3 : numI p (numF p i) k = numI p (numF p i) i := by unfold numI; rw [hf i k h1]
    rw [h3]
    have h4 : 0 ≤ numI p (numF p i) i := by
      rw [← h3, numI_full (m := i) (fun i _ => hr i) h2]
      exact numV_nn _ _ _
    rw [numV_yes (by omega)]
theorem numF_count {p : Nat → Nat → Bool} (i : Nat) : ((numF p (i + 1)).length : Int) = if numV p (numF p i) i = ((numF p i).length : Int) then ((numF p i).length : Int) + 1 else ((numF p i).length : Int) := by
  by_cases h : numI p (numF p i) i < 0
  · rw [numV_no h, if_pos rfl, numF_no h]; simp
  · rw [numV_yes h, numF_yes h]
    have := numI_lt p (numF p i) i
    rw [if_neg (by omega)]
/-- how many classes the numbers of classes tell of -/
def cntF (l : List Int) : Int := l.foldl (fun n x => max n (x + 1)) 0
theorem cntF_step (l : List Int) (x : Int) : cntF (l ++ [x]) = max (cntF l) (x + 1) := by simp [cntF]
theorem cntF_ge : ∀ (l : List Int) (n : Int), n ≤ l.foldl (fun n x => max n (x + 1)) n ∧ ∀ x ∈ l, x + 1 ≤ l.foldl (fun n x => max n (x + 1)) n
  | [], n => ⟨Int.le_refl _, fun x hx => by cases hx⟩
  | y :: l, n => by
    have := cntF_ge l (max n (y + 1))
    simp only [List.foldl_cons]
    refine ⟨by omega, fun x hx => ?_⟩
    rcases List.mem_cons.1 hx with rfl | hx
    · omega
    · exact this.2 x hx
theorem cntF_le : ∀ (l : List Int) (n M : Int), n ≤ M + 1 → (∀ x ∈ l, x ≤ M) → l.foldl (fun n x => max n (x + 1)) n ≤ M + 1
  | [], n, M, h, _ => h
  | y :: l, n, M, h, hl => by
    simp only [List.foldl_cons]
    exact cntF_le l _ M (by have := hl y (by simp); omega) (fun x hx => hl x (by simp [hx]))
theorem cntF_max {l : List Int} {M : Int} (h1 : M ∈ l) (h2 : ∀ x ∈ l, x ≤ M) (h3 : 0 ≤ M) : cntF l = M + 1 := by
  have a := (cntF_ge l 0).2 M h1
  have b := cntF_le l 0 M (by omega) h2
  unfold cntF
  omega
theorem cntF_few {l : List Int} {n : Nat} (h : ∀ x ∈ l, x < (n : Int)) : 0 ≤ cntF l ∧ cntF l ≤ (n : Int) := by
  have a := (cntF_ge l 0).1
  have b := cntF_le l 0 ((n : Int) - 1) (by omega) (fun x hx => by have := h x hx; omega)
  unfold cntF
  omega
theorem numV_le {p : Nat → Nat → Bool} {F : List Nat} {j : Nat} : numV p F j ≤ (F.length : Int) := by
  unfold numV
  split
  · omega
  · have := numI_lt p F j; omega
theorem numO_small {p : Nat → Nat → Bool} {c : Nat} {x : Int} (h : x ∈ numO p c) : 0 ≤ x ∧ x < (c : Int) := by
  unfold numO at h
  obtain ⟨j, hj, rfl⟩ := List.mem_map.1 h
  have h1 := List.mem_range.1 hj
  have h2 := numF_len p j
  have h3 := numV_le (p := p) (F := numF p j) (j := j)
  exact ⟨numV_nn _ _ _, by omega⟩
/-- ClassesOf and CountClasses as functions of plain data -/
def clzF (n : Int) (l : List Int) (kind : Int) : List Int := if tabB n l && inB kind 1 4 then numO (relK n.toNat (l.map Int.toNat) kind) n.toNat else []
theorem clzF_no1 {n : Int} {l : List Int} {kind : Int} (h : tabB n l = false) : clzF n l kind = [] := by simp [clzF, h]
theorem clzF_no2 {n : Int} {l : List Int} {kind : Int} (h : inB kind 1 4 = false) : clzF n l kind = [] := by simp [clzF, h]
theorem clzF_yes {m : Nat} {ln : List Nat} {kind : Int} (h : tabB (m : Nat) (ln.map Int.ofNat) = true) (h2 : inB kind 1 4 = true) : clzF (m : Nat) (ln.map Int.ofNat) kind = numO (relK m ln kind) m := by
  unfold clzF
  rw [h, h2, map_toNat']
  rfl
theorem clzF_small {n : Int} {l : List Int} {kind : Int} {x : Int} (h : x ∈ clzF n l kind) : 0 ≤ x ∧ x < 40 := by
  unfold clzF at h
  cases ht : tabB n l
  · rw [ht] at h; simp at h
  · obtain ⟨m, ln, rfl, rfl, hT⟩ := tabOk_out ht
    have := hT.hi
    split at h
    · have := numO_small h; simp at this; omega
    · cases h
theorem clzF_len (n : Int) (l : List Int) (kind : Int) : (clzF n l kind).length ≤ 40 := by
  unfold clzF
  cases ht : tabB n l
  · simp
  · obtain ⟨m, ln, rfl, rfl, hT⟩ := tabOk_out ht
    have := hT.hi
    split
    · rw [numO_len]; simpa using this
    · simp
end Go.Proofs.Ytdhaebbfiaddnaa
