/-
  InverseOf and OrderOf, of the program and of the reference.
-/
import Derived.Test.YtngbimgabcacpaaGreatGro26
import Derived.Test.YtngbimgabcacpaaGreatGro01
import Derived.Test.YtngbimgabcacpaaGreatGro05
import Derived.Test.YtngbimgabcacpaaGreatGro24
import Derived.Test.YtngbimgabcacpaaGreatGro02
import Derived.Sort.OwnSortedInts
namespace Go.Proofs.YtngbimgabcacpaaGreat
open Go.RowKit
set_option linter.unusedVariables false
set_option linter.unusedSectionVars false
theorem nodup_leN : ∀ {l l' : List Nat}, l.Nodup → (∀ x ∈ l, x ∈ l') → l.length ≤ l'.length
  | [], _, _, _ => Nat.zero_le _
  | a :: l, l', h, hs => by
    rw [List.nodup_cons] at h
    have h1 : a ∈ l' := hs a List.mem_cons_self
    have h2 := nodup_leN (l := l) (l' := l'.erase a) h.2 (fun x hx => by
      have hne : x ≠ a := by rintro rfl; exact h.1 hx
      exact (List.mem_erase_of_ne hne).2 (hs x (List.mem_cons_of_mem _ hx)))
    have h3 := List.length_erase_of_mem h1
    have h4 := List.length_pos_of_mem h1
    simp only [List.length_cons]
    omega
theorem listTo_inj_le {f g : Nat → Bool} {m k : Nat} (φ : Nat → Nat) (h1 : ∀ x, x < m → f x = true → φ x < k ∧ g (φ x) = true) (h2 : ∀ x y, x < m → y < m → f x = true → f y = true → φ x = φ y → x = y) : (listTo f m).length ≤ (listTo g k).length := by
  unfold listTo
  rw [List.length_map, List.length_map]
  have e : ((List.range m).filter f).length = (((List.range m).filter f).map φ).length := by rw [List.length_map]
  rw [e]
  refine nodup_leN ?_ ?_
  · refine List.pairwise_map.2 ?_
    have hn : ((List.range m).filter f).Nodup := List.Pairwise.filter _ List.nodup_range
    refine List.Pairwise.imp_of_mem (fun {a b} ha hb hab he => hab ?_) hn
    have ha' := List.mem_filter.1 ha
    have hb' := List.mem_filter.1 hb
    exact h2 a b (List.mem_range.1 ha'.1) (List.mem_range.1 hb'.1) ha'.2 hb'.2 he
  · intro y hy
    obtain ⟨x, hx, rfl⟩ := List.mem_map.1 hy
    have hx' := List.mem_filter.1 hx
    have := h1 x (List.mem_range.1 hx'.1) hx'.2
    exact List.mem_filter.2 ⟨List.mem_range.2 this.1, this.2⟩
theorem listTo_true (m : Nat) : (listTo (fun _ => true) m).length = m := by
  unfold listTo
  rw [List.length_map, List.filter_eq_self.2 (fun _ _ => rfl), List.length_range]
/-- how many below m have the value y -/
def fibN (φ : Nat → Nat) (m y : Nat) : Nat := (listTo (fun x => decide (φ x = y)) m).length
theorem fib_succ (φ : Nat → Nat) (m y : Nat) : fibN φ (m + 1) y = fibN φ m y + if φ m = y then 1 else 0 := by
  unfold fibN
  by_cases h : φ m = y
  · rw [listTo_yes (by simpa using h), if_pos h]; simp
  · rw [listTo_no (by simpa using h), if_neg h]; rfl
theorem sum_one {v : Nat} : ∀ {q : Nat}, ((List.range q).map fun y => if v = y then 1 else 0).sum = if v < q then 1 else 0
  | 0 => by simp
  | q + 1 => by
    rw [List.range_succ, List.map_append, List.sum_append, sum_one (q := q)]
    simp only [List.map_cons, List.map_nil, List.sum_cons, List.sum_nil]
    split <;> split <;> split <;> omega
theorem sum_addN (f g : Nat → Nat) : ∀ l : List Nat, (l.map fun y => f y + g y).sum = (l.map f).sum + (l.map g).sum
  | [] => rfl
  | a :: l => by
    simp only [List.map_cons, List.sum_cons, sum_addN f g l]
    omega
theorem sum_none : ∀ l : List Nat, (l.map fun _ => 0).sum = 0
  | [] => rfl
  | a :: l => by simp only [List.map_cons, List.sum_cons, sum_none l]
theorem fib_sum {φ : Nat → Nat} {q : Nat} : ∀ {m : Nat}, (∀ x, x < m → φ x < q) → ((List.range q).map (fibN φ m)).sum = m
  | 0, _ => by
    have e : fibN φ 0 = fun _ => 0 := by funext y; simp [fibN, listTo]
    rw [e, sum_none]
  | m + 1, h => by
    have e : fibN φ (m + 1) = fun y => fibN φ m y + (fun y => if φ m = y then 1 else 0) y := by funext y; exact fib_succ φ m y
    rw [e, sum_addN, fib_sum (m := m) (fun x hx => h x (by omega)), sum_one, if_pos (h m (Nat.lt_succ_self m))]
theorem sum_even {img : Nat → Bool} {s : Nat} {f : Nat → Nat} : ∀ {q : Nat}, (∀ y, y < q → img y = true → f y = s) → (∀ y, y < q → img y = false → f y = 0) → ((List.range q).map f).sum = (listTo img q).length * s
  | 0, _, _ => by simp [listTo]
  | q + 1, h1, h0 => by
    rw [List.range_succ, List.map_append, List.sum_append, sum_even (fun y hy => h1 y (by omega)) (fun y hy => h0 y (by omega))]
    simp only [List.map_cons, List.map_nil, List.sum_cons, List.sum_nil]
    cases hi : img q
    · rw [listTo_no hi, h0 q (by omega) hi]; omega
    · rw [listTo_yes hi, h1 q (by omega) hi, List.length_append, List.length_singleton, Nat.add_mul]; omega
theorem fib_even {φ : Nat → Nat} {img : Nat → Bool} {s q m : Nat} (h : ∀ x, x < m → φ x < q) (h1 : ∀ y, y < q → img y = true → fibN φ m y = s) (h0 : ∀ y, y < q → img y = false → fibN φ m y = 0) : m = (listTo img q).length * s := by
  rw [← sum_even h1 h0, fib_sum h]
theorem fib_zero {φ : Nat → Nat} {m y : Nat} (h : ∀ x, x < m → φ x ≠ y) : fibN φ m y = 0 := by
  unfold fibN listTo
  rw [List.length_map, List.length_eq_zero_iff, List.filter_eq_nil_iff]
  intro x hx
  simpa using h x (List.mem_range.1 hx)
theorem mul_mod {a b c : Nat} (h : a = b * c) : a % c = 0 ∧ a % b = 0 := by subst h; simp
/-- the classes' numbers are all met -/
theorem num_onto (p : Nat → Nat → Bool) : ∀ c n, n < (numF p c).length → ∃ i, i < c ∧ numV p (numF p i) i = ((n : Nat) : Int)
  | 0, n, h => by simp [numF] at h
  | c + 1, n, h => by
    by_cases hq : numI p (numF p c) c < 0
    · rw [numF_no hq, List.length_append, List.length_singleton] at h
      by_cases hn : n < (numF p c).length
      · obtain ⟨i, hi, e⟩ := num_onto p c n hn
        exact ⟨i, by omega, e⟩
      · refine ⟨c, by omega, ?_⟩
        rw [numV_no hq]
        congr 1
        omega
    · rw [numF_yes hq] at h
      obtain ⟨i, hi, e⟩ := num_onto p c n h
      exact ⟨i, by omega, e⟩
theorem numF_mono (p : Nat → Nat → Bool) {a b : Nat} (h : a ≤ b) : (numF p a).length ≤ (numF p b).length := (numF_pre h).length_le
theorem numV_lt (p : Nat → Nat → Bool) {c i : Nat} (h : i < c) : 0 ≤ numV p (numF p i) i ∧ numV p (numF p i) i < ((numF p c).length : Nat) := by
  have h1 := numF_mono p (show i + 1 ≤ c from h)
  have h2 := numV_le (p := p) (F := numF p i) (j := i)
  refine ⟨numV_nn _ _ _, ?_⟩
  by_cases hq : numI p (numF p i) i < 0
  · rw [numF_no hq, List.length_append, List.length_singleton] at h1
    rw [numV_no hq]
    omega
  · rw [numV_yes hq]
    have h3 : (numI p (numF p i) i) < (((numF p i).length : Nat) : Int) := by
      unfold numI at hq ⊢
      cases hf : (numF p i).findIdx? (p i) with
      | none => simp only [hf] at hq; omega
      | some k =>
        have := (List.findIdx?_eq_some_iff_findIdx_eq.1 hf).1
        simp only
        omega
    have h4 := numF_mono p (show i ≤ c by omega)
    omega
theorem numF_congr {p q : Nat → Nat → Bool} {m : Nat} (h : ∀ i k, i < m → k < m → p i k = q i k) : ∀ c, c ≤ m → numF p c = numF q c
  | 0, _ => rfl
  | c + 1, hc => by
    have ih := numF_congr h c (by omega)
    rw [numF_succ, numF_succ, ih]
    have e : (numF q c).any (p c) = (numF q c).any (q c) := by
      rw [Bool.eq_iff_iff, List.any_eq_true, List.any_eq_true]
      constructor
      · rintro ⟨x, hx, h1⟩; have := numF_lt q c x hx; exact ⟨x, hx, by rw [← h c x (by omega) (by omega)]; exact h1⟩
      · rintro ⟨x, hx, h1⟩; have := numF_lt q c x hx; exact ⟨x, hx, by rw [h c x (by omega) (by omega)]; exact h1⟩
    rw [e]
theorem findIdx_congr {α : Type} {p q : α → Bool} : ∀ {l : List α}, (∀ x ∈ l, p x = q x) → l.findIdx? p = l.findIdx? q
  | [], _ => rfl
  | a :: l, h => by
    rw [List.findIdx?_cons, List.findIdx?_cons, h a List.mem_cons_self, findIdx_congr (l := l) fun x hx => h x (List.mem_cons_of_mem _ hx)]
theorem numO_congr {p q : Nat → Nat → Bool} {m : Nat} (h : ∀ i k, i < m → k < m → p i k = q i k) : numO p m = numO q m := by
  unfold numO
  refine List.map_congr_left fun j hj => ?_
  have hj := List.mem_range.1 hj
  have hF := numF_congr h j (by omega)
  have e : numI p (numF p j) j = numI q (numF q j) j := by
    unfold numI
    rw [hF, findIdx_congr (p := p j) (q := q j) (fun x hx => h j x hj (by have := numF_lt q j x hx; omega))]
  unfold numV
  rw [e, hF]
/-- a relation below m, made an equivalence -/
def clampR (m : Nat) (p : Nat → Nat → Bool) (i k : Nat) : Bool := if i < m ∧ k < m then p i k else decide (i = k)
theorem clampR_in {m : Nat} {p : Nat → Nat → Bool} {i k : Nat} (hi : i < m) (hk : k < m) : clampR m p i k = p i k := if_pos ⟨hi, hk⟩
theorem clampR_eqv {m : Nat} {p : Nat → Nat → Bool} (hr : ∀ i, i < m → p i i = true) (hs : ∀ i k, i < m → k < m → p i k = true → p k i = true) (ht : ∀ i j k, i < m → j < m → k < m → p i j = true → p j k = true → p i k = true) : EqvB (clampR m p) := by
  refine ⟨fun i => ?_, fun i k h => ?_⟩
  · unfold clampR
    split
    · rename_i h; exact hr i h.1
    · simp
  · by_cases hi : i < m
    · by_cases hk : k < m
      · rw [clampR_in hi hk] at h
        funext j
        by_cases hj : j < m
        · rw [clampR_in hi hj, clampR_in hk hj, Bool.eq_iff_iff]
          exact ⟨fun h1 => ht k i j hk hi hj (hs i k hi hk h) h1, fun h1 => ht i k j hi hk hj h h1⟩
        · unfold clampR
          rw [if_neg (fun h => hj h.2), if_neg (fun h => hj h.2), Bool.eq_iff_iff]
          simp only [decide_eq_true_eq]
          omega
      · unfold clampR at h
        rw [if_neg (fun h => hk h.2)] at h
        have := of_decide_eq_true h
        omega
    · unfold clampR at h
      rw [if_neg (fun h => hi h.1)] at h
      have := of_decide_eq_true h
      rw [this]
/-- classes of one size -/
theorem num_even {p : Nat → Nat → Bool} {m s : Nat} (hr : ∀ i, i < m → p i i = true) (hs : ∀ i k, i < m → k < m → p i k = true → p k i = true) (ht : ∀ i j k, i < m → j < m → k < m → p i j = true → p j k = true → p i k = true)
    (hsz : ∀ i, i < m → (listTo (fun x => p x i) m).length = s) :
    m = (numF p m).length * s ∧ ∀ n : Nat, n < (numF p m).length → cntZ (numO p m) (n : Nat) = s := by
  have he := clampR_eqv hr hs ht
  have hc : ∀ i k, i < m → k < m → p i k = clampR m p i k := fun i k hi hk => (clampR_in hi hk).symm
  have e1 := numO_congr hc
  have e2 := numF_congr hc m (Nat.le_refl _)
  rw [e1, e2]
  have hval : ∀ x, x < m → ∃ v : Nat, nthZ (numO (clampR m p) m) x = (v : Int) ∧ v < (numF (clampR m p) m).length := fun x hx => by
    have := numV_lt (clampR m p) hx
    rw [numO_nth hx]
    exact ⟨(numV (clampR m p) (numF (clampR m p) x) x).toNat, by omega, by omega⟩
  have hfib : ∀ y, y < (numF (clampR m p) m).length → fibN (fun x => (nthZ (numO (clampR m p) m) x).toNat) m y = s := by
    intro y hy
    obtain ⟨i, hi, e⟩ := num_onto (clampR m p) m y hy
    rw [← hsz i hi]
    unfold fibN
    congr 1
    refine listTo_congr fun x hx => ?_
    rw [hc x i hx hi, Bool.eq_iff_iff, decide_eq_true_eq, ← num_same he hx hi, numO_nth hi, e]
    obtain ⟨v, hv, _⟩ := hval x hx
    show ((nthZ (numO (clampR m p) m) x).toNat = y) ↔ _
    rw [hv]
    omega
  refine ⟨?_, fun n hn => ?_⟩
  · have := fib_even (φ := fun x => (nthZ (numO (clampR m p) m) x).toNat) (img := fun _ => true) (s := s) (q := (numF (clampR m p) m).length) (m := m) (fun x hx => by
      obtain ⟨v, hv, h2⟩ := hval x hx
      simp only [hv]; omega) (fun y hy _ => hfib y hy) (fun y hy h => by cases h)
    rw [listTo_true] at this
    exact this
  · rw [← hfib n hn]
    unfold fibN cntZ numO listTo
    rw [List.filter_map, List.length_map, List.length_map]
    congr 1
    refine List.filter_congr fun x hx => ?_
    have hx := List.mem_range.1 hx
    obtain ⟨v, hv, _⟩ := hval x hx
    have h2 := numO_nth (p := clampR m p) hx
    rw [hv] at h2
    have h4 : decide (numV (clampR m p) (numF (clampR m p) x) x = (n : Int)) = decide ((nthZ (numO (clampR m p) m) x).toNat = n) := by
      rw [hv, ← h2, Bool.eq_iff_iff, decide_eq_true_eq, decide_eq_true_eq]
      omega
    exact h4
end Go.Proofs.YtngbimgabcacpaaGreat
namespace Go.Proofs.YtngbimgabcacpaaGreat
open Go.RowKit
set_option linter.unusedVariables false
def invN (m : Nat) (ln : List Nat) (i : Nat) : Nat := (invF m ln i).toNat
theorem Grp.invN_spec {m : Nat} {ln : List Nat} (h : Grp m ln) {i : Nat} (hi : i < m) : invN m ln i < m ∧ tm m ln i (invN m ln i) = 0 ∧ tm m ln (invN m ln i) i = 0 ∧ invF m ln i = ((invN m ln i : Nat) : Int) := by
  obtain ⟨k, hk, e1, e2, e3⟩ := h.inv hi
  have : invN m ln i = k := by unfold invN; rw [e3]; simp
  rw [this]
  exact ⟨hk, e1, e2, e3⟩
/-- the product of x, i and the inverse of x -/
def cj (m : Nat) (ln : List Nat) (x i : Nat) : Nat := tm m ln (tm m ln x i) (invN m ln x)
theorem Grp.cj_lt {m : Nat} {ln : List Nat} (h : Grp m ln) {x i : Nat} (hx : x < m) (hi : i < m) : cj m ln x i < m := h.tm_lt (h.tm_lt hx hi) (h.invN_spec hx).1
def subOne (m : Nat) (ln : List Nat) (p : Nat) (q : List Nat) (x : Nat) : List Nat := if q.contains (tm m ln (q.getD p 0) x) then q else q ++ [tm m ln (q.getD p 0) x]
def subTo (m : Nat) (ln z q : List Nat) (p j : Nat) : List Nat := (z.take j).foldl (subOne m ln p) q
def subRun (m : Nat) (ln z : List Nat) : Nat → Nat → List Nat → List Nat
  | 0, _, q => q
  | k + 1, p, q => if p < q.length then subRun m ln z k (p + 1) (subTo m ln z q p z.length) else q
/-- the elements of the least subgroup, in the order in which they are found -/
def subQ (m : Nat) (ln z : List Nat) : List Nat := subRun m ln z (m + 1) 0 [0]
theorem subTo_zero (m : Nat) (ln z q : List Nat) (p : Nat) : subTo m ln z q p 0 = q := by simp [subTo]
theorem subTo_succ {m : Nat} {ln z q : List Nat} {p j : Nat} (hj : j < z.length) : subTo m ln z q p (j + 1) = subOne m ln p (subTo m ln z q p j) z[j] := by
  unfold subTo
  rw [List.take_succ_eq_append_getElem hj, List.foldl_append]
  rfl
/-- what is known of the list -/
structure SubInv (m : Nat) (q : List Nat) : Prop where
  nd : q.Nodup
  lt : ∀ y ∈ q, y < m
theorem SubInv.len {m : Nat} {q : List Nat} (h : SubInv m q) : q.length ≤ m := by
  apply Nat.le_of_not_lt
  intro hlt
  obtain ⟨i, j, hij, hj, e⟩ := php m (fun i => q.getD i 0) (fun i hi => by
    simp only [List.getD_eq_getElem?_getD, List.getElem?_eq_getElem (show i < q.length by omega), Option.getD_some]
    exact h.lt _ (List.getElem_mem _))
  simp only [List.getD_eq_getElem?_getD, List.getElem?_eq_getElem (show i < q.length by omega), List.getElem?_eq_getElem (show j < q.length by omega), Option.getD_some] at e
  exact (List.pairwise_iff_getElem.1 h.nd) i j (by omega) (by omega) hij e
theorem SubInv.start {m : Nat} (h : 1 ≤ m) : SubInv m [0] := ⟨by simp, by simp; omega⟩
theorem getD_lt {q : List Nat} {p : Nat} (h : p < q.length) : q.getD p 0 = q[p] := by simp [List.getD_eq_getElem?_getD, h]
theorem SubInv.at {m : Nat} {q : List Nat} (h : SubInv m q) {p : Nat} (hp : p < q.length) : q.getD p 0 < m := by rw [getD_lt hp]; exact h.lt _ (List.getElem_mem _)
theorem subOne_inv {m : Nat} {ln q : List Nat} {p x : Nat} (hT : Tb m ln) (h : SubInv m q) (hp : p < q.length) (hx : x < m) : SubInv m (subOne m ln p q x) := by
  unfold subOne
  by_cases hc : q.contains (tm m ln (q.getD p 0) x) = true
  · rw [if_pos hc]; exact h
  · rw [if_neg hc]
    refine ⟨?_, fun y hy => ?_⟩
    · rw [List.nodup_append]
      refine ⟨h.nd, by simp, fun a ha b hb e => ?_⟩
      rw [List.mem_singleton.1 hb] at e
      subst e
      exact hc (by simpa using ha)
    · rcases List.mem_append.1 hy with hy | hy
      · exact h.lt y hy
      · rw [List.mem_singleton.1 hy]; exact hT.tm_lt (h.at hp) hx
theorem subOne_pre (m : Nat) (ln q : List Nat) (p x : Nat) : q <+: subOne m ln p q x := by
  unfold subOne
  split
  · exact List.prefix_refl _
  · exact List.prefix_append _ _
theorem pre_get {q q' : List Nat} (h : q <+: q') {p : Nat} (hp : p < q.length) : q'.getD p 0 = q.getD p 0 := by
  obtain ⟨t, rfl⟩ := h
  rw [List.getD_eq_getElem?_getD, List.getD_eq_getElem?_getD, List.getElem?_append_left hp]
theorem subTo_all {m : Nat} {ln z q : List Nat} {p : Nat} (hT : Tb m ln) (hz : ∀ x ∈ z, x < m) (h : SubInv m q) (hp : p < q.length) : ∀ j, j ≤ z.length → SubInv m (subTo m ln z q p j) ∧ q <+: subTo m ln z q p j
  | 0, _ => by rw [subTo_zero]; exact ⟨h, List.prefix_refl _⟩
  | j + 1, hj => by
    obtain ⟨h1, h2⟩ := subTo_all hT hz h hp j (by omega)
    rw [subTo_succ (by omega)]
    exact ⟨subOne_inv hT h1 (Nat.lt_of_lt_of_le hp h2.length_le) (hz _ (List.getElem_mem _)), h2.trans (subOne_pre _ _ _ _ _)⟩
/-- the state of the outer loop: what comes out is what comes out of the beginning -/
structure SubAt (m : Nat) (ln z : List Nat) (p : Nat) (q : List Nat) : Prop extends SubInv m q where
  pos : 0 < q.length
  le : p ≤ q.length
  eq : subRun m ln z (m + 1 - p) p q = subQ m ln z
theorem SubAt.begin {m : Nat} {ln : List Nat} (z : List Nat) (h : Tb m ln) : SubAt m ln z 0 [0] := ⟨SubInv.start h.lo, by simp, by simp, rfl⟩
theorem SubAt.next {m : Nat} {ln z : List Nat} {p : Nat} {q : List Nat} (hT : Tb m ln) (hz : ∀ x ∈ z, x < m) (h : SubAt m ln z p q) (hp : p < q.length) : SubAt m ln z (p + 1) (subTo m ln z q p z.length) := by
  obtain ⟨h1, h2⟩ := subTo_all hT hz h.toSubInv hp _ (Nat.le_refl _)
  have h3 := h2.length_le
  have h4 := h.toSubInv.len
  refine ⟨h1, by omega, by omega, ?_⟩
  have h5 := h.eq
  rw [show m + 1 - p = (m + 1 - (p + 1)) + 1 by omega] at h5
  unfold subRun at h5
  rw [if_pos hp] at h5
  exact h5
theorem SubAt.stop {m : Nat} {ln z : List Nat} {p : Nat} {q : List Nat} (h : SubAt m ln z p q) (hp : ¬ p < q.length) : q = subQ m ln z := by
  have h4 := h.toSubInv.len
  have h6 := h.le
  have h5 := h.eq
  rw [show m + 1 - p = (m - p) + 1 by omega] at h5
  unfold subRun at h5
  rw [if_neg hp] at h5
  exact h5
inductive Reach (m : Nat) (ln z : List Nat) : Nat → Prop
  | zero : Reach m ln z 0
  | step {y x : Nat} : Reach m ln z y → x ∈ z → Reach m ln z (tm m ln y x)
theorem subOne_mem {m : Nat} {ln q : List Nat} {p x y : Nat} : y ∈ subOne m ln p q x ↔ y ∈ q ∨ y = tm m ln (q.getD p 0) x := by
  unfold subOne
  by_cases hc : q.contains (tm m ln (q.getD p 0) x) = true
  · rw [if_pos hc]
    have hc' : tm m ln (q.getD p 0) x ∈ q := by simpa using hc
    exact ⟨.inl, fun h => h.elim id (fun e => e ▸ hc')⟩
  · rw [if_neg hc]; simp
theorem subTo_reach {m : Nat} {ln z q : List Nat} {p : Nat} (h : ∀ y ∈ q, Reach m ln z y) (hp : p < q.length) : ∀ j, j ≤ z.length → q <+: subTo m ln z q p j ∧ ∀ y ∈ subTo m ln z q p j, Reach m ln z y
  | 0, _ => by rw [subTo_zero]; exact ⟨List.prefix_refl _, h⟩
  | j + 1, hj => by
    obtain ⟨h1, h2⟩ := subTo_reach h hp j (by omega)
    rw [subTo_succ (by omega)]
    refine ⟨h1.trans (subOne_pre _ _ _ _ _), fun y hy => ?_⟩
    rcases subOne_mem.1 hy with hy | rfl
    · exact h2 y hy
    · have hl := Nat.lt_of_lt_of_le hp h1.length_le
      rw [getD_lt hl]
      exact .step (h2 _ (List.getElem_mem hl)) (List.getElem_mem _)
theorem subTo_has {m : Nat} {ln z q : List Nat} {p : Nat} (hp : p < q.length) : ∀ j, j ≤ z.length → q <+: subTo m ln z q p j ∧ ∀ i (hi : i < j) (hiz : i < z.length), tm m ln (q.getD p 0) z[i] ∈ subTo m ln z q p j
  | 0, _ => by rw [subTo_zero]; exact ⟨List.prefix_refl _, fun i hi => absurd hi (Nat.not_lt_zero _)⟩
  | j + 1, hj => by
    obtain ⟨h1, h2⟩ := subTo_has (ln := ln) (m := m) (z := z) hp j (by omega)
    rw [subTo_succ (by omega)]
    refine ⟨h1.trans (subOne_pre _ _ _ _ _), fun i hi hiz => ?_⟩
    by_cases e : i = j
    · subst e
      exact subOne_mem.2 (.inr (by rw [pre_get h1 hp]))
    · exact subOne_mem.2 (.inl (h2 i (by omega) hiz))
/-- what comes out of the run is closed -/
theorem subRun_closed {m : Nat} {ln z : List Nat} (hT : Tb m ln) (hz : ∀ x ∈ z, x < m) : ∀ (k p : Nat) (q : List Nat), SubInv m q → m < k + p → (∀ y ∈ q, Reach m ln z y) → (∀ i, i < p → i < q.length → ∀ x ∈ z, tm m ln (q.getD i 0) x ∈ q) →
    q <+: subRun m ln z k p q ∧ (∀ y ∈ subRun m ln z k p q, Reach m ln z y) ∧ ∀ y ∈ subRun m ln z k p q, ∀ x ∈ z, tm m ln y x ∈ subRun m ln z k p q
  | 0, p, q, hI, hk, hr, hc => by
    unfold subRun
    refine ⟨List.prefix_refl _, hr, fun y hy x hx => ?_⟩
    obtain ⟨i, hi, rfl⟩ := List.getElem_of_mem hy
    have := hI.len
    have h1 := hc i (by omega) hi x hx
    rwa [getD_lt hi] at h1
  | k + 1, p, q, hI, hk, hr, hc => by
    unfold subRun
    by_cases hp : p < q.length
    · rw [if_pos hp]
      obtain ⟨h1, h2⟩ := subTo_all hT hz hI hp _ (Nat.le_refl _)
      obtain ⟨_, h3⟩ := subTo_reach hr hp _ (Nat.le_refl z.length)
      obtain ⟨_, h4⟩ := subTo_has (m := m) (ln := ln) (z := z) hp _ (Nat.le_refl z.length)
      obtain ⟨a1, a2, a3⟩ := subRun_closed hT hz k (p + 1) (subTo m ln z q p z.length) h1 (by omega) h3 (fun i hi hil x hx => by
        by_cases e : i = p
        · subst e
          obtain ⟨j, hj, rfl⟩ := List.getElem_of_mem hx
          rw [pre_get h2 hp]
          exact h4 j hj hj
        · have hi' : i < q.length := by omega
          rw [pre_get h2 hi']
          exact h2.subset (hc i (by omega) hi' x hx))
      exact ⟨h2.trans a1, a2, a3⟩
    · rw [if_neg hp]
      refine ⟨List.prefix_refl _, hr, fun y hy x hx => ?_⟩
      obtain ⟨i, hi, rfl⟩ := List.getElem_of_mem hy
      have h1 := hc i (by omega) hi x hx
      rwa [getD_lt hi] at h1
theorem subQ_mem {m : Nat} {ln z : List Nat} (hT : Tb m ln) (hz : ∀ x ∈ z, x < m) (y : Nat) : y ∈ subQ m ln z ↔ Reach m ln z y := by
  obtain ⟨h1, h2, h3⟩ := subRun_closed hT hz (m + 1) 0 [0] (SubInv.start hT.lo) (by omega) (fun y hy => by rw [List.mem_singleton.1 hy]; exact .zero) (fun i hi => absurd hi (Nat.not_lt_zero _))
  refine ⟨h2 y, fun h => ?_⟩
  induction h with
  | zero => exact h1.subset (by simp)
  | step _ hx ih => exact h3 _ ih _ hx
theorem Reach.mono {m : Nat} {ln z z' : List Nat} (h : ∀ x ∈ z, x ∈ z') {y : Nat} (hr : Reach m ln z y) : Reach m ln z' y := by
  induction hr with
  | zero => exact .zero
  | step _ hx ih => exact .step ih (h _ hx)
theorem Reach.lt {m : Nat} {ln z : List Nat} (hT : Tb m ln) (hz : ∀ x ∈ z, x < m) {y : Nat} (h : Reach m ln z y) : y < m := by
  induction h with
  | zero => exact hT.lo
  | step _ hx ih => exact hT.tm_lt ih (hz _ hx)
theorem Reach.mul {m : Nat} {ln z : List Nat} (hT : TabOk m ln) (hz : ∀ x ∈ z, x < m) {a b : Nat} (ha : Reach m ln z a) (hb : Reach m ln z b) : Reach m ln z (tm m ln a b) := by
  induction hb with
  | zero => rw [hT.right _ (ha.lt hT.toTb hz)]; exact ha
  | step hb hx ih =>
    rw [← hT.assoc _ _ _ (ha.lt hT.toTb hz) (hb.lt hT.toTb hz) (hz _ hx)]
    exact .step ih hx
theorem Reach.pow {m : Nat} {ln z : List Nat} (hT : TabOk m ln) (hz : ∀ x ∈ z, x < m) {a : Nat} (ha : Reach m ln z a) : ∀ n, Reach m ln z (pw m ln a n)
  | 0 => .zero
  | n + 1 => (Reach.pow hT hz ha n).mul hT hz ha
theorem Reach.inv {m : Nat} {ln z : List Nat} (hG : Grp m ln) (hz : ∀ x ∈ z, x < m) {a : Nat} (ha : Reach m ln z a) : Reach m ln z (invN m ln a) := by
  have hl := ha.lt hG.toTb hz
  obtain ⟨h1, h2, _⟩ := hG.order hl
  have e : tm m ln (pw m ln a (repN m ln a - 1)) a = 0 := by
    rw [← h2, show repN m ln a = (repN m ln a - 1) + 1 by omega, pw_succ]; rfl
  have hp := hG.toTb.pw_lt hl (repN m ln a - 1)
  obtain ⟨i1, i2, i3, _⟩ := hG.invN_spec hl
  have : invN m ln a = pw m ln a (repN m ln a - 1) := by
    have h3 := hG.assoc _ _ _ hp hl i1
    rw [e, i2, hG.left _ i1, hG.right _ hp] at h3
    exact h3
  rw [this]
  exact ha.pow hG.toTabOk hz _
end Go.Proofs.YtngbimgabcacpaaGreat
namespace Go.Proofs.YtngbimgabcacpaaGreat
open Go.RowKit Go.Sort
set_option linter.unusedVariables false
theorem owns_block_of {w : World} {base g cap n : Nat} {T : TypeId} {xs : List Value} (h : w.ownsRow base T 1 (.slice (some ⟨g, 0, none⟩) n cap) n xs) : ∃ cur, base ≤ g ∧ w.heap[g]? = some (.cells cur T (0, 0)) ∧ n ≤ cap ∧ cap ≤ maxLen ∧ cur.size = cap * 1 ∧ cur.toList.take n = xs := by
  rcases h.2 with ⟨hv, _⟩ | ⟨g', cap', cur, hv, hb, hg, hn, hc, hs, ht⟩
  · cases hv
  · simp only [Value.slice.injEq, Option.some.injEq, Addr.mk.injEq, and_true, true_and] at hv
    obtain ⟨rfl, rfl⟩ := hv
    exact ⟨cur, hb, hg, hn, hc, hs, by simpa using ht⟩
theorem owns_shrink {w : World} {base g cap n k : Nat} {T : TypeId} {xs : List Value} (h : w.ownsRow base T 1 (.slice (some ⟨g, 0, none⟩) n cap) n xs) (hk : k ≤ n) : w.ownsRow base T 1 (.slice (some ⟨g, 0, none⟩) k cap) k (xs.take k) := by
  have hl := h.1
  obtain ⟨cur, h1, h2, h3, h4, h5, h6⟩ := owns_block_of h
  refine ⟨by rw [List.length_take]; omega, .inr ⟨g, cap, cur, rfl, h1, h2, by omega, h4, h5, ?_⟩⟩
  rw [← h6, List.take_take]
  congr 1; omega
theorem grow_none (w : World) : grow w #[] = w := by simp [grow]
theorem sortOwn_any (l : List Int) (base g cap : Nat) (w : World) (h : w.ownsRow base 3 1 (.slice (some ⟨g, 0, none⟩) l.length cap) l.length (intVals l)) (hlen : l.length ≤ 2 ^ 47) :
    Calls Tryz.prog 64 #[.slice (some ⟨g, 0, none⟩) l.length cap] w fun e w' => e = .returned (.tuple #[]) ∧ w'.ownsRow base 3 1 (.slice (some ⟨g, 0, none⟩) l.length cap) l.length (intVals (sortL l)) ∧ w.grownBy w' (some g) := by
  obtain ⟨cur, h1, h2, h3, h4, h5, h6⟩ := owns_block_of h
  refine (Tryz.slices_Sort_int g 0 cap l w (holds_of_blockI h2 h6) (Array.getElem?_eq_some_iff.1 h2).1 (by omega)).mono ?_
  rintro e w' ⟨rfl, n, os, rfl⟩
  exact ⟨rfl, ownsRow_sortedI (by simp) h1 h2 h3 h4 h5, grownBy_sortedI _⟩
theorem compactOwn_any (l : List Int) (base g cap : Nat) (w : World) (h : w.ownsRow base 3 1 (.slice (some ⟨g, 0, none⟩) l.length cap) l.length (intVals l)) (hlen : l.length ≤ 2 ^ 47) :
    Calls Tryz.prog 81 #[.slice (some ⟨g, 0, none⟩) l.length cap] w fun e w' => e = .returned (.slice (some ⟨g, 0, none⟩) (Lib.compact l).length cap) ∧ w'.ownsRow base 3 1 (.slice (some ⟨g, 0, none⟩) (Lib.compact l).length cap) (Lib.compact l).length (intVals (Lib.compact l)) ∧ w.grownBy w' (some g) := by
  obtain ⟨cur, h1, h2, h3, h4, h5, h6⟩ := owns_block_of h
  have hle : (Lib.compact l).length ≤ l.length := by
    unfold Lib.compact Lib.compactUpTo
    rw [List.length_map]
    exact Nat.le_trans (List.length_filter_le _ _) (by simp)
  refine (Tryz.slices_Compact_int g 0 cap l w (holds_of_blockI h2 h6) (by omega) h3).mono ?_
  rintro e w' ⟨rfl, q, rfl⟩
  have k1 := ownsRow_sortedI (n := q) (os := #[]) (ss := l) (ts := Lib.compact l ++ List.replicate (l.length - (Lib.compact l).length) 0) (by simp; omega) h1 h2 h3 h4 h5
  have k2 := grownBy_sortedI (w := w) (g := g) (n := q) (os := #[]) (Lib.compact l ++ List.replicate (l.length - (Lib.compact l).length) 0).toArray
  rw [grow_none] at k1 k2
  refine ⟨rfl, ?_, k2⟩
  have k3 := owns_shrink k1 hle
  rw [List.map_append, List.take_left' (by simp)] at k3
  exact k3
set_option maxHeartbeats 800000 in
theorem collected_any (l : List Int) (a : Option Addr) (cap : Nat) (w : World) (hl : IntsIn w a l) (h0 : 0 < l.length) (hlen : l.length ≤ 1000000) :
    Calls Tryz.prog 47 #[.slice a l.length cap] w (RetSl 3 1 (collL l).length (intVals (collL l)) w) := by
  have HC : Hid (∀ W, Below w.heap.size w W → Calls Tryz.prog 80 #[.slice a l.length cap] W fun e W' => ∃ v', e = .returned v' ∧ W'.ownsRow W.heap.size 3 1 v' l.length (intVals l) ∧ v' ≠ .slice none 0 0 ∧ Below W.heap.size W W') := fun W hW => by
    obtain ⟨b, off, rfl, _, hc⟩ := (hl.later hW).cell h0
    have := Tryz.slices_Clone_int b off l.length cap l W (Nat.le_refl _) (by omega) (fun j hj => by have := hc j hj; unfold nthZ at this; exact this)
    rw [List.take_length] at this
    exact this
  clear hl
  go_enter Tryz.func47, Tryz.ntmps47
  go_wp2_with fail
  refine (HC.out _ (Below.refl _ _)).mono ?_
  rintro e w1 ⟨v1, rfl, ho1, hne, hb1⟩
  obtain ⟨g, cap1, rfl⟩ : ∃ g cap1, v1 = .slice (some ⟨g, 0, none⟩) l.length cap1 := by
    rcases ho1.2 with ⟨hv, _⟩ | ⟨g, cap', cur, hv, _⟩
    · exact absurd hv hne
    · exact ⟨g, cap', hv⟩
  have HO := Lib.hid ho1
  have HB := Lib.hid hb1
  clear ho1 hb1 hne HC
  go_wp2_with fail
  refine (sortOwn_any l _ g cap1 _ HO.out (by omega)).mono ?_
  rintro e w2 ⟨rfl, ho2, hg2⟩
  have HO2 : Hid (w2.ownsRow w.heap.size 3 1 (.slice (some ⟨g, 0, none⟩) (sortL l).length cap1) (sortL l).length (intVals (sortL l))) := by rw [sortL_len]; exact ho2
  have HB2 : Hid (Below w.heap.size w w2) := HB.out.grown hg2 HB.out.size (fun k hk => (HO.out.lt k hk).1)
  clear ho2 hg2
  go_wp2_with fail
  have hC := compactOwn_any (sortL l) _ g cap1 w2 HO2.out (by rw [sortL_len]; omega)
  rw [sortL_len] at hC
  refine hC.mono ?_
  rintro e w3 ⟨rfl, ho3, hg3⟩
  have HB3 : Hid (Below w.heap.size w w3) := HB2.out.grown hg3 HB2.out.size (fun k hk => (HO2.out.lt k hk).1)
  have HO3 := Lib.hid ho3
  clear ho3 hg3 hC
  go_wp2_with fail
  go_ret
  exact ⟨_, _, rfl, HO3.out, HB3.out⟩
end Go.Proofs.YtngbimgabcacpaaGreat
namespace Go.Proofs.YtngbimgabcacpaaGreat
open Go.RowKit
set_option linter.unusedVariables false
/-- InverseOf as a function of plain data -/
def invOk (n : Int) (l : List Int) (i : Int) : Bool := groupB n l && inB i 0 (n - 1)
def invV (n : Int) (l : List Int) (i : Int) : Int := if invOk n l i = true then invF n.toNat (l.map Int.toNat) i.toNat else 0
/-- OrderOf as a function of plain data -/
def ordV (n : Int) (l : List Int) (i : Int) : Int := if invOk n l i = true then (repN n.toNat (l.map Int.toNat) i.toNat : Nat) else 0
theorem invOk_not1 {n : Int} {l : List Int} {i : Int} (h : groupB n l = false) : invOk n l i = false := by simp [invOk, h]
theorem invOk_not2 {n : Int} {l : List Int} {i : Int} (h : inB i 0 (n - 1) = false) : invOk n l i = false := by simp [invOk, h]
theorem invOk_yes {n : Int} {l : List Int} {i : Int} (h1 : groupB n l = true) (h : inB i 0 (n - 1) = true) : invOk n l i = true := by simp [invOk, h, h1]
theorem invV_not {n : Int} {l : List Int} {i : Int} (h : invOk n l i = false) : invV n l i = 0 := by simp [invV, h]
theorem ordV_not {n : Int} {l : List Int} {i : Int} (h : invOk n l i = false) : ordV n l i = 0 := by simp [ordV, h]
theorem invV_yes {m k : Nat} {ln : List Nat} (h : invOk (m : Nat) (ln.map Int.ofNat) (k : Nat) = true) : invV (m : Nat) (ln.map Int.ofNat) (k : Nat) = invF m ln k := by
  unfold invV; rw [if_pos h, map_toNat]; rfl
theorem ordV_yes {m k : Nat} {ln : List Nat} (h : invOk (m : Nat) (ln.map Int.ofNat) (k : Nat) = true) : ordV (m : Nat) (ln.map Int.ofNat) (k : Nat) = ((repN m ln k : Nat) : Int) := by
  unfold ordV; rw [if_pos h, map_toNat]; rfl
theorem inB_nat {m : Nat} {i : Int} (h : inB i 0 ((m : Nat) - 1) = true) : ∃ k : Nat, i = (k : Nat) ∧ k < m := by
  have := inB_bounds h
  exact ⟨i.toNat, by omega, by omega⟩
theorem ret_ib {a b : Int} {p q : Bool} (h : a = b) (h2 : p = q) : Ending.returned (.tuple #[.int .i64 a, .bool p]) = .returned (.tuple #[.int .i64 b, .bool q]) := by rw [h, h2]
theorem ret_ii {a b c d : Int} (h : a = b) (h2 : c = d) : Ending.returned (.tuple #[.int .i64 a, .int .i64 c]) = .returned (.tuple #[.int .i64 b, .int .i64 d]) := by rw [h, h2]
set_option maxHeartbeats 1000000 in
theorem implInverseOf_any (n : Int) (l : List Int) (a : Option Addr) (cap : Nat) (i : Int) (w : World) (hl : IntsIn w a l) (hlen : l.length ≤ 2 ^ 47) (hcap : l.length ≤ cap ∧ cap ≤ maxLen) :
    Calls Tryz.prog 11 #[.agg #[.int .i64 n, .slice a l.length cap], .int .i64 i] w fun e w' => e = .returned (.tuple #[.int .i64 (invV n l i), .bool (invOk n l i)]) ∧ Below w.heap.size w w' := by
  have HI := Lib.hid hl
  have HC := Lib.hid hcap
  clear hl hcap
  cases hg : groupB n l
  · have F := Lib.hid (invV_not (invOk_not1 (i := i) hg))
    have F2 := Lib.hid (invOk_not1 (i := i) hg)
    go_enter Tryz.func11, Tryz.ntmps11
    go_wp2_with fail
    refine (implIsGroup_any n l a cap _ (HI.out.later ((Below.refl _ _).alloc (Nat.le_refl _) _)) hlen).mono ?_
    rintro e w1 ⟨h2, hb1⟩
    rw [hg] at h2
    subst h2
    have hbel := Below.now ((Below.refl w.heap.size w).alloc (Nat.le_refl _) _) hb1
    clear hb1
    go_wp2_with fail
    go_ret2
    exact ⟨ret_ib F.out.symm F2.out.symm, hbel⟩
  obtain ⟨m, ln, rfl, hlm, hG⟩ := groupB_out hg
  have HG := Lib.hid hG
  have hm0 := hG.lo
  have hm1 := hG.hi
  have HLM := Lib.hid hlm
  have HLL : Hid (l.length = m * m) := by rw [hlm, List.length_map]; exact hG.len
  have HGB : Hid (groupB (m : Nat) l = true) := hg
  clear hG hlm
  cases hi : inB i 0 ((m : Nat) - 1)
  · have F := Lib.hid (invV_not (invOk_not2 (l := l) hi))
    have F2 := Lib.hid (invOk_not2 (l := l) hi)
    go_enter Tryz.func11, Tryz.ntmps11
    go_wp2_with fail
    refine (implIsGroup_any _ l a cap _ (HI.out.later ((Below.refl _ _).alloc (Nat.le_refl _) _)) hlen).mono ?_
    rintro e w1 ⟨h2, hb1⟩
    rw [HGB.out] at h2
    subst h2
    have x0 := box_later hb1 (i := 0) (v := .int .i64 (m : Nat)) rfl _ (Below.refl _ _)
    have x1 := box_later hb1 (i := 1) (v := .slice a l.length cap) rfl _ (Below.refl _ _)
    have hbel := Below.now ((Below.refl w.heap.size w).alloc (Nat.le_refl _) _) hb1
    clear hb1
    go_wp2_with fail
    refine (has_any m _ _ _ hm0 hm1).mono ?_
    rintro e w2 ⟨h2, hb2⟩
    rw [hi] at h2
    subst h2
    replace x0 := (hb2.cell (World.block_lt_of_cell? _ _ x0)).trans x0
    replace x1 := (hb2.cell (World.block_lt_of_cell? _ _ x1)).trans x1
    replace hbel := Below.now hbel hb2
    clear hb2
    go_wp2_with fail
    go_ret2
    exact ⟨ret_ib F.out.symm F2.out.symm, hbel⟩
  · have F2 := Lib.hid (invOk_yes HGB.out hi)
    obtain ⟨k, rfl, hk⟩ := inB_nat hi
    have F : Hid (invV (m : Nat) l (k : Nat) = invF m ln k) := by have := F2.out; rw [HLM.out] at this ⊢; exact invV_yes this
    go_enter Tryz.func11, Tryz.ntmps11
    go_wp2_with fail
    refine (implIsGroup_any _ l a cap _ (HI.out.later ((Below.refl _ _).alloc (Nat.le_refl _) _)) hlen).mono ?_
    rintro e w1 ⟨h2, hb1⟩
    rw [HGB.out] at h2
    subst h2
    have x0 := box_later hb1 (i := 0) (v := .int .i64 (m : Nat)) rfl _ (Below.refl _ _)
    have x1 := box_later hb1 (i := 1) (v := .slice a l.length cap) rfl _ (Below.refl _ _)
    have hbel := Below.now ((Below.refl w.heap.size w).alloc (Nat.le_refl _) _) hb1
    clear hb1
    go_wp2_with fail
    refine (has_any m _ _ _ hm0 hm1).mono ?_
    rintro e w2 ⟨h2, hb2⟩
    rw [hi] at h2
    subst h2
    replace x0 := (hb2.cell (World.block_lt_of_cell? _ _ x0)).trans x0
    replace x1 := (hb2.cell (World.block_lt_of_cell? _ _ x1)).trans x1
    replace hbel := Below.now hbel hb2
    clear hb2
    go_wp2_with fail
    refine (inverse_any m ln a _ cap k _ (by unfold NatsIn; rw [← HLM.out]; exact HI.out.later hbel) HG.out HLL.out HC.out.1 HC.out.2 hk).mono ?_
    rintro e w5 ⟨rfl, hb5⟩
    replace hbel := Below.now hbel hb5
    clear hb5 x0 x1
    go_wp2_with fail
    go_ret2
    exact ⟨ret_ib F.out.symm F2.out.symm, hbel⟩
set_option maxHeartbeats 1000000 in
theorem implOrderOf_any (n : Int) (l : List Int) (a : Option Addr) (cap : Nat) (i : Int) (w : World) (hl : IntsIn w a l) (hlen : l.length ≤ 2 ^ 47) :
    Calls Tryz.prog 8 #[.agg #[.int .i64 n, .slice a l.length cap], .int .i64 i] w fun e w' => e = .returned (.int .i64 (ordV n l i)) ∧ Below w.heap.size w w' := by
  have HI := Lib.hid hl
  clear hl
  cases hg : groupB n l
  · have F := Lib.hid (ordV_not (invOk_not1 (i := i) hg))
    have F2 := Lib.hid (invOk_not1 (i := i) hg)
    go_enter Tryz.func8, Tryz.ntmps8
    go_wp2_with fail
    refine (implIsGroup_any n l a cap _ (HI.out.later ((Below.refl _ _).alloc (Nat.le_refl _) _)) hlen).mono ?_
    rintro e w1 ⟨h2, hb1⟩
    rw [hg] at h2
    subst h2
    have hbel := Below.now ((Below.refl w.heap.size w).alloc (Nat.le_refl _) _) hb1
    clear hb1
    go_wp2_with fail
    go_ret
    exact ⟨ret_int F.out.symm, hbel⟩
  obtain ⟨m, ln, rfl, hlm, hG⟩ := groupB_out hg
  have HG := Lib.hid hG
  have hm0 := hG.lo
  have hm1 := hG.hi
  have HLM := Lib.hid hlm
  have HLL : Hid (l.length = m * m) := by rw [hlm, List.length_map]; exact hG.len
  have HGB : Hid (groupB (m : Nat) l = true) := hg
  clear hG hlm
  cases hi : inB i 0 ((m : Nat) - 1)
  · have F := Lib.hid (ordV_not (invOk_not2 (l := l) hi))
    have F2 := Lib.hid (invOk_not2 (l := l) hi)
    go_enter Tryz.func8, Tryz.ntmps8
    go_wp2_with fail
    refine (implIsGroup_any _ l a cap _ (HI.out.later ((Below.refl _ _).alloc (Nat.le_refl _) _)) hlen).mono ?_
    rintro e w1 ⟨h2, hb1⟩
    rw [HGB.out] at h2
    subst h2
    have x0 := box_later hb1 (i := 0) (v := .int .i64 (m : Nat)) rfl _ (Below.refl _ _)
    have x1 := box_later hb1 (i := 1) (v := .slice a l.length cap) rfl _ (Below.refl _ _)
    have hbel := Below.now ((Below.refl w.heap.size w).alloc (Nat.le_refl _) _) hb1
    clear hb1
    go_wp2_with fail
    refine (has_any m _ _ _ hm0 hm1).mono ?_
    rintro e w2 ⟨h2, hb2⟩
    rw [hi] at h2
    subst h2
    replace x0 := (hb2.cell (World.block_lt_of_cell? _ _ x0)).trans x0
    replace x1 := (hb2.cell (World.block_lt_of_cell? _ _ x1)).trans x1
    replace hbel := Below.now hbel hb2
    clear hb2
    go_wp2_with fail
    go_ret
    exact ⟨ret_int F.out.symm, hbel⟩
  · have F2 := Lib.hid (invOk_yes HGB.out hi)
    obtain ⟨k, rfl, hk⟩ := inB_nat hi
    have F : Hid (ordV (m : Nat) l (k : Nat) = ((repN m ln k : Nat) : Int)) := by have := F2.out; rw [HLM.out] at this ⊢; exact ordV_yes this
    go_enter Tryz.func8, Tryz.ntmps8
    go_wp2_with fail
    refine (implIsGroup_any _ l a cap _ (HI.out.later ((Below.refl _ _).alloc (Nat.le_refl _) _)) hlen).mono ?_
    rintro e w1 ⟨h2, hb1⟩
    rw [HGB.out] at h2
    subst h2
    have x0 := box_later hb1 (i := 0) (v := .int .i64 (m : Nat)) rfl _ (Below.refl _ _)
    have x1 := box_later hb1 (i := 1) (v := .slice a l.length cap) rfl _ (Below.refl _ _)
    have hbel := Below.now ((Below.refl w.heap.size w).alloc (Nat.le_refl _) _) hb1
    clear hb1
    go_wp2_with fail
    refine (has_any m _ _ _ hm0 hm1).mono ?_
    rintro e w2 ⟨h2, hb2⟩
    rw [hi] at h2
    subst h2
    replace x0 := (hb2.cell (World.block_lt_of_cell? _ _ x0)).trans x0
    replace x1 := (hb2.cell (World.block_lt_of_cell? _ _ x1)).trans x1
    replace hbel := Below.now hbel hb2
    clear hb2
    go_wp2_with fail
    obtain ⟨hN1, hN2, hN3⟩ := HG.out.order hk
    have hN4 := HG.out.toTb.repN_le hk
    have HN2 := Lib.hid hN2
    have HN3 := Lib.hid hN3
    have HN1 : Hid (∀ W, Below w2.heap.size w2 W → NatsIn W a ln) := fun W hW => by unfold NatsIn; rw [← HLM.out]; exact (HI.out.later hbel).later hW
    have hx0 : ∀ W, Below w2.heap.size w2 W → W.cell? ⟨w.heap.size, 0, none⟩ = some (.int .i64 (m : Nat)) := fun W hW => (hW.cell (World.block_lt_of_cell? _ _ x0)).trans x0
    have hx1 : ∀ W, Below w2.heap.size w2 W → W.cell? ⟨w.heap.size, 1, none⟩ = some (.slice a l.length cap) := fun W hW => (hW.cell (World.block_lt_of_cell? _ _ x1)).trans x1
    have HB := Lib.hid hbel
    have hb0 := Below.refl w2.heap.size w2
    clear hN2 hN3 hbel x0 x1
    go_loopw [5] (fun v wr => ∃ c : Nat, 1 ≤ c ∧ c ≤ repN m ln k ∧ v = .int .i64 c ∧ Below w2.heap.size w2 wr) (fun v _ => 100 - (intOf v).toNat)
    case atStart => exact ⟨1, Nat.le_refl _, hN1, rfl, hb0⟩
    case round =>
      clear hb0
      obtain ⟨c, hc1, hc2, rfl, hbw⟩ := hrel
      go_wp2_with fail
      refine (power_any m ln a _ _ k c _ (HN1.out _ hbw) HG.out.toTb HLL.out hk (by omega)).mono ?_
      rintro e w5 ⟨rfl, hb5⟩
      replace hbw := Below.now hbw hb5
      clear hb5
      by_cases hlt : c < repN m ln k
      · have hne : ((((pw m ln k c : Nat) : Int) == 0) = false) := by have := HN3.out c hc1 hlt; simp; omega
        go_wp2_with fail
        go_roundw
        case rel => exact ⟨c + 1, by omega, by omega, by go_num, hbw⟩
        case measure => simp [intOf]; omega
      · obtain rfl : c = repN m ln k := by omega
        have hne : ((((pw m ln k (repN m ln k) : Nat) : Int) == 0) = true) := by rw [HN2.out]; rfl
        go_wp2_with fail
        go_ret
        exact ⟨ret_int F.out.symm, Below.now HB.out hbw⟩
end Go.Proofs.YtngbimgabcacpaaGreat
