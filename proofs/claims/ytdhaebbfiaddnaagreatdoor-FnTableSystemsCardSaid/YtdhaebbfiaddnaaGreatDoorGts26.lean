/-
  The keys by which the program compares elements: a captured slice of slices that grows.
-/
import Derived.Test.YtdhaebbfiaddnaaGreatDoorGts25
import Derived.Test.YtdhaebbfiaddnaaGreatDoorGts22
import Derived.Test.YtdhaebbfiaddnaaGreatDoorGts03
import Derived.Test.YtdhaebbfiaddnaaGreatDoorGts09
import Derived.Test.YtdhaebbfiaddnaaGreatDoorGts24
import Derived.Test.YtdhaebbfiaddnaaGreatDoorGts02
import Derived.Sort.OwnSortedInts
import Derived.Deep.RegionHeld3
import Derived.Test.YtdhaebbfiaddnaaGreatDoorGts23
namespace Go.Proofs.YtdhaebbfiaddnaaGreatDoor
open Go.RowKit
set_option linter.unusedVariables false
set_option linter.unusedSectionVars false
/-- a row of a table that is told by its products -/
def rowN (f : Nat → Nat → Nat) (i k : Nat) : List Nat := (List.range k).map (f i)
def rowsN (m : Nat) (f : Nat → Nat → Nat) (i : Nat) : List Nat := (List.range i).flatMap fun i => rowN f i m
def mkT (m : Nat) (f : Nat → Nat → Nat) : List Nat := rowsN m f m
theorem rowN_succ (f : Nat → Nat → Nat) (i k : Nat) : rowN f i (k + 1) = rowN f i k ++ [f i k] := by simp [rowN, List.range_succ]
theorem rowN_zero (f : Nat → Nat → Nat) (i : Nat) : rowN f i 0 = [] := rfl
theorem rowN_len (f : Nat → Nat → Nat) (i k : Nat) : (rowN f i k).length = k := by simp [rowN]
theorem rowsN_succ (m : Nat) (f : Nat → Nat → Nat) (i : Nat) : rowsN m f (i + 1) = rowsN m f i ++ rowN f i m := by simp [rowsN, List.range_succ, List.flatMap_append]
theorem rowsN_zero (m : Nat) (f : Nat → Nat → Nat) : rowsN m f 0 = [] := rfl
theorem rowsN_len (m : Nat) (f : Nat → Nat → Nat) : ∀ i, (rowsN m f i).length = i * m
  | 0 => by simp [rowsN_zero]
  | i + 1 => by rw [rowsN_succ, List.length_append, rowsN_len m f i, rowN_len, Nat.add_mul]; omega
theorem mkT_len (m : Nat) (f : Nat → Nat → Nat) : (mkT m f).length = m * m := rowsN_len m f m
theorem rowsN_at {m : Nat} {f : Nat → Nat → Nat} {i k : Nat} (hk : k < m) : ∀ {c : Nat}, i < c → (rowsN m f c).getD (i * m + k) 0 = f i k
  | 0, hi => by omega
  | c + 1, hi => by
    rw [rowsN_succ, List.getD_eq_getElem?_getD]
    by_cases h : i < c
    · have hlt : i * m + k < (rowsN m f c).length := by
        rw [rowsN_len]
        have := Nat.mul_le_mul_right m (show i + 1 ≤ c from h)
        rw [Nat.add_mul] at this
        omega
      rw [List.getElem?_append_left hlt, ← List.getD_eq_getElem?_getD]
      exact rowsN_at hk h
    · obtain rfl : i = c := by omega
      rw [List.getElem?_append_right (by rw [rowsN_len]; omega), rowsN_len, show i * m + k - i * m = k by omega]
      simp [rowN, hk]
theorem mkT_at {m : Nat} {f : Nat → Nat → Nat} {i k : Nat} (hi : i < m) (hk : k < m) : tm m (mkT m f) i k = f i k := rowsN_at hk hi
theorem tab_ext {m : Nat} {ln rn : List Nat} (h1 : ln.length = m * m) (h2 : rn.length = m * m) (h : ∀ i k, i < m → k < m → tm m ln i k = tm m rn i k) : ln = rn := by
  refine List.ext_getElem (by omega) fun j hj1 hj2 => ?_
  have hm : 0 < m := by
    rcases Nat.eq_zero_or_pos m with e | e
    · subst e; omega
    · exact e
  have hq : j / m < m := Nat.div_lt_of_lt_mul (by omega)
  have hr : j % m < m := Nat.mod_lt _ hm
  have e : j / m * m + j % m = j := by rw [Nat.mul_comm]; exact Nat.div_add_mod j m
  have := h _ _ hq hr
  unfold tm at this
  rw [e, List.getD_eq_getElem?_getD, List.getD_eq_getElem?_getD, List.getElem?_eq_getElem hj1, List.getElem?_eq_getElem hj2] at this
  exact this
theorem rowsN_mem {m : Nat} {f : Nat → Nat → Nat} {c x : Nat} (h : x ∈ rowsN m f c) : ∃ i k, i < c ∧ k < m ∧ x = f i k := by
  unfold rowsN rowN at h
  obtain ⟨i, hi, h⟩ := List.mem_flatMap.1 h
  obtain ⟨k, hk, rfl⟩ := List.mem_map.1 h
  exact ⟨i, k, List.mem_range.1 hi, List.mem_range.1 hk, rfl⟩
theorem mkT_ok {m : Nat} {f : Nat → Nat → Nat} (h1 : 1 ≤ m) (h2 : m ≤ 40) (hr : ∀ i k, i < m → k < m → f i k < m) (hl : ∀ i, i < m → f 0 i = i) (hrt : ∀ i, i < m → f i 0 = i) (ha : ∀ i j k, i < m → j < m → k < m → f (f i j) k = f i (f j k)) : TabOk m (mkT m f) := by
  refine ⟨⟨h1, h2, mkT_len m f, fun x hx => ?_⟩, fun i hi => ?_, fun i hi => ?_, fun i j k hi hj hk => ?_⟩
  · obtain ⟨i, k, hi, hk, rfl⟩ := rowsN_mem hx; exact hr i k hi hk
  · rw [mkT_at (by omega) hi, hl i hi]
  · rw [mkT_at hi (by omega), hrt i hi]
  · rw [mkT_at hi hj, mkT_at hj hk, mkT_at (hr i j hi hj) hk, mkT_at hi (hr j k hj hk), ha i j k hi hj hk]

/-! ### the opposite table -/
def oppF (m : Nat) (ln : List Nat) (i k : Nat) : Nat := tm m ln k i
def oppT (m : Nat) (ln : List Nat) : List Nat := mkT m (oppF m ln)
theorem opp_ok {m : Nat} {ln : List Nat} (h : TabOk m ln) : TabOk m (oppT m ln) :=
  mkT_ok h.lo h.hi (fun i k hi hk => h.tm_lt hk hi) (fun i hi => h.right i hi) (fun i hi => h.left i hi) (fun i j k hi hj hk => (h.assoc k j i hk hj hi).symm)
theorem opp_opp {m : Nat} {ln : List Nat} (h : TabOk m ln) : oppT m (oppT m ln) = ln := by
  refine tab_ext (mkT_len _ _) h.len fun i k hi hk => ?_
  unfold oppT
  rw [mkT_at hi hk]
  show tm m (mkT m (oppF m ln)) k i = _
  rw [mkT_at hk hi]
  rfl
theorem opp_same {m : Nat} {ln : List Nat} (h : TabOk m ln) : oppT m ln = ln ↔ ∀ x y, x < m → y < m → tm m ln x y = tm m ln y x := by
  constructor
  · intro e x y hx hy
    have : tm m (oppT m ln) x y = tm m ln x y := by rw [e]
    unfold oppT at this
    rw [mkT_at hx hy] at this
    exact this.symm
  · intro e
    refine tab_ext (mkT_len _ _) h.len fun i k hi hk => ?_
    unfold oppT
    rw [mkT_at hi hk]
    exact e k i hk hi

/-! ### the product of two tables -/
def prdF (m : Nat) (ln : List Nat) (n : Nat) (rn : List Nat) (i k : Nat) : Nat := tm m ln (i / n) (k / n) * n + tm n rn (i % n) (k % n)
def prodT (m : Nat) (ln : List Nat) (n : Nat) (rn : List Nat) : List Nat := mkT (m * n) (prdF m ln n rn)
section
variable {m n : Nat} {ln rn : List Nat} (h : TabOk m ln) (h' : TabOk n rn)
include h h'
theorem div_lt' {i : Nat} (hi : i < m * n) : i / n < m ∧ i % n < n := ⟨Nat.div_lt_of_lt_mul (by rw [Nat.mul_comm]; exact hi), Nat.mod_lt _ h'.lo⟩
theorem two_lt {a b : Nat} (ha : a < m) (hb : b < n) : a * n + b < m * n := by
  have := Nat.mul_le_mul_right n (show a + 1 ≤ m from ha)
  rw [Nat.add_mul] at this
  omega
theorem prdF_lt {i k : Nat} (hi : i < m * n) (hk : k < m * n) : prdF m ln n rn i k < m * n := by
  obtain ⟨a1, a2⟩ := div_lt' h h' hi
  obtain ⟨b1, b2⟩ := div_lt' h h' hk
  exact two_lt h h' (h.tm_lt a1 b1) (h'.tm_lt a2 b2)
theorem prdF_parts {i k : Nat} (hi : i < m * n) (hk : k < m * n) : prdF m ln n rn i k / n = tm m ln (i / n) (k / n) ∧ prdF m ln n rn i k % n = tm n rn (i % n) (k % n) := by
  obtain ⟨a1, a2⟩ := div_lt' h h' hi
  obtain ⟨b1, b2⟩ := div_lt' h h' hk
  have hlt := h'.tm_lt a2 b2
  have hn := h'.lo
  unfold prdF
  constructor
  · rw [Nat.mul_comm, Nat.mul_add_div (by omega), Nat.div_eq_of_lt hlt]; rfl
  · rw [Nat.mul_comm, Nat.mul_add_mod, Nat.mod_eq_of_lt hlt]
theorem prod_ok (hm : m * n ≤ 40) : TabOk (m * n) (prodT m ln n rn) := by
  have hm1 := h.lo
  have hn1 := h'.lo
  refine mkT_ok (Nat.mul_pos h.lo h'.lo) hm (fun i k hi hk => prdF_lt h h' hi hk) (fun i hi => ?_) (fun i hi => ?_) (fun i j k hi hj hk => ?_)
  · obtain ⟨a1, a2⟩ := div_lt' h h' hi
    unfold prdF
    rw [Nat.zero_div, Nat.zero_mod, h.left _ a1, h'.left _ a2, Nat.mul_comm]
    exact Nat.div_add_mod i n
  · obtain ⟨a1, a2⟩ := div_lt' h h' hi
    unfold prdF
    rw [Nat.zero_div, Nat.zero_mod, h.right _ a1, h'.right _ a2, Nat.mul_comm]
    exact Nat.div_add_mod i n
  · obtain ⟨a1, a2⟩ := div_lt' h h' hi
    obtain ⟨b1, b2⟩ := div_lt' h h' hj
    obtain ⟨c1, c2⟩ := div_lt' h h' hk
    obtain ⟨p1, p2⟩ := prdF_parts h h' hi hj
    obtain ⟨q1, q2⟩ := prdF_parts h h' hj hk
    have e1 : prdF m ln n rn (prdF m ln n rn i j) k = tm m ln (tm m ln (i / n) (j / n)) (k / n) * n + tm n rn (tm n rn (i % n) (j % n)) (k % n) := by
      rw [prdF.eq_def m ln n rn (prdF m ln n rn i j) k, p1, p2]
    have e2 : prdF m ln n rn i (prdF m ln n rn j k) = tm m ln (i / n) (tm m ln (j / n) (k / n)) * n + tm n rn (i % n) (tm n rn (j % n) (k % n)) := by
      rw [prdF.eq_def m ln n rn i (prdF m ln n rn j k), q1, q2]
    rw [e1, e2, h.assoc _ _ _ a1 b1 c1, h'.assoc _ _ _ a2 b2 c2]
theorem prod_two {i k a b : Nat} (hi : i < m * n) (hk : k < m * n) (ha : a < m) (hb : b < n) : prdF m ln n rn i k = a * n + b ↔ tm m ln (i / n) (k / n) = a ∧ tm n rn (i % n) (k % n) = b := by
  obtain ⟨p1, p2⟩ := prdF_parts h h' hi hk
  have hn := h'.lo
  constructor
  · intro e
    rw [e] at p1 p2
    rw [Nat.mul_comm, Nat.mul_add_div (by omega), Nat.div_eq_of_lt hb] at p1
    rw [Nat.mul_comm, Nat.mul_add_mod, Nat.mod_eq_of_lt hb] at p2
    exact ⟨by rw [← p1]; rfl, p2.symm⟩
  · rintro ⟨e1, e2⟩
    unfold prdF
    rw [e1, e2]
end
theorem uni_iff {m : Nat} {ln : List Nat} {i : Nat} : isUnit m ln i = true ↔ ∃ k, k < m ∧ tm m ln i k = 0 ∧ tm m ln k i = 0 := by
  unfold isUnit
  rw [Bool.not_eq_true']
  constructor
  · intro hf
    rcases Classical.em (∃ k, k < m ∧ tm m ln i k = 0 ∧ tm m ln k i = 0) with h1 | h1
    · exact h1
    · exfalso
      rw [Bool.eq_false_iff] at hf
      refine hf (all_range.2 fun k hk => ?_)
      cases hb : unB m ln i k
      · exfalso
        unfold unB at hb
        simp at hb
        exact h1 ⟨k, hk, hb.1, hb.2⟩
      · rfl
  · rintro ⟨k, hk, h1, h2⟩
    refine all_range_false hk ?_
    unfold unB
    simp [h1, h2]
theorem listTo_add (f : Nat → Bool) (a : Nat) : ∀ b, (listTo f (a + b)).length = (listTo f a).length + (listTo (fun x => f (a + x)) b).length
  | 0 => by simp [listTo]
  | b + 1 => by
    rw [show a + (b + 1) = (a + b) + 1 by omega]
    cases hf : f (a + b)
    · rw [listTo_no hf, listTo_no (f := fun x => f (a + x)) hf, listTo_add f a b]
    · rw [listTo_yes hf, listTo_yes (f := fun x => f (a + x)) hf, List.length_append, List.length_append, listTo_add f a b]; simp; omega
theorem count_pair (P Q : Nat → Bool) {n : Nat} (hn : 0 < n) : ∀ m, (listTo (fun x => P (x / n) && Q (x % n)) (m * n)).length = (listTo P m).length * (listTo Q n).length
  | 0 => by simp [listTo]
  | m + 1 => by
    rw [Nat.add_mul, Nat.one_mul, listTo_add, count_pair P Q hn m]
    have e : listTo (fun x => P ((m * n + x) / n) && Q ((m * n + x) % n)) n = listTo (fun x => P m && Q x) n := listTo_congr fun x hx => by
      rw [Nat.mul_comm m n, Nat.mul_add_div hn, Nat.div_eq_of_lt hx, Nat.mul_add_mod, Nat.mod_eq_of_lt hx]; rfl
    rw [e]
    cases hp : P m
    · rw [listTo_no hp]
      have e2 : (listTo (fun x => false && Q x) n).length = 0 := by simp [listTo]
      rw [e2]; omega
    · rw [listTo_yes hp, List.length_append, List.length_singleton, Nat.add_mul]
      have e2 : listTo (fun x => true && Q x) n = listTo Q n := listTo_congr fun x hx => by rw [Bool.true_and]
      rw [e2]; omega
section
variable {m n : Nat} {ln rn : List Nat} (h : TabOk m ln) (h' : TabOk n rn)
include h h'
theorem prod_idem : (listTo (idemB (m * n) (prodT m ln n rn)) (m * n)).length = (listTo (idemB m ln) m).length * (listTo (idemB n rn) n).length := by
  rw [← count_pair (idemB m ln) (idemB n rn) h'.lo]
  congr 1
  refine listTo_congr fun x hx => ?_
  obtain ⟨a1, a2⟩ := div_lt' h h' hx
  have e : x = x / n * n + x % n := by rw [Nat.mul_comm]; exact (Nat.div_add_mod x n).symm
  have key : prdF m ln n rn x x = x ↔ tm m ln (x / n) (x / n) = x / n ∧ tm n rn (x % n) (x % n) = x % n := by
    have := prod_two h h' hx hx a1 a2
    rwa [← e] at this
  rw [Bool.eq_iff_iff, Bool.and_eq_true]
  unfold idemB prodT
  rw [mkT_at hx hx]
  simp only [decide_eq_true_eq]
  exact key
theorem prod_unit : (listTo (isUnit (m * n) (prodT m ln n rn)) (m * n)).length = (listTo (isUnit m ln) m).length * (listTo (isUnit n rn) n).length := by
  rw [← count_pair (isUnit m ln) (isUnit n rn) h'.lo]
  congr 1
  refine listTo_congr fun x hx => ?_
  obtain ⟨a1, a2⟩ := div_lt' h h' hx
  rw [Bool.eq_iff_iff, Bool.and_eq_true, uni_iff, uni_iff, uni_iff]
  have hz : ∀ i k, i < m * n → k < m * n → (tm (m * n) (prodT m ln n rn) i k = 0 ↔ tm m ln (i / n) (k / n) = 0 ∧ tm n rn (i % n) (k % n) = 0) := fun i k hi hk => by
    unfold prodT
    rw [mkT_at hi hk]
    have := prod_two h h' hi hk h.lo h'.lo
    rw [Nat.zero_mul, Nat.zero_add] at this
    exact this
  constructor
  · rintro ⟨k, hk, e1, e2⟩
    obtain ⟨b1, b2⟩ := div_lt' h h' hk
    obtain ⟨f1, f2⟩ := (hz x k hx hk).1 e1
    obtain ⟨g1, g2⟩ := (hz k x hk hx).1 e2
    exact ⟨⟨k / n, b1, f1, g1⟩, k % n, b2, f2, g2⟩
  · rintro ⟨⟨a, ha, f1, g1⟩, b, hb, f2, g2⟩
    have hn := h'.lo
    have hab := two_lt h h' ha hb
    have d1 : (a * n + b) / n = a := by rw [Nat.mul_comm, Nat.mul_add_div (by omega), Nat.div_eq_of_lt hb]; rfl
    have d2 : (a * n + b) % n = b := by rw [Nat.mul_comm, Nat.mul_add_mod, Nat.mod_eq_of_lt hb]
    exact ⟨a * n + b, hab, (hz _ _ hx hab).2 (by rw [d1, d2]; exact ⟨f1, f2⟩), (hz _ _ hab hx).2 (by rw [d1, d2]; exact ⟨g1, g2⟩)⟩
end

/-! ### powers -/
section
variable {m : Nat} {ln : List Nat} (h : TabOk m ln)
include h
theorem pw_back {i : Nat} (hi : i < m) {k : Nat} (hk : repK m ln i ≤ k) (j : Nat) : pw m ln i (k + (repN m ln i - repK m ln i) * j) = pw m ln i k := by
  induction j with
  | zero => rfl
  | succ j ih =>
    obtain ⟨h1, h2, _⟩ := h.toTb.repK_spec hi
    have e : k + (repN m ln i - repK m ln i) * (j + 1) = (k + (repN m ln i - repK m ln i) * j) + (repN m ln i - repK m ln i) := by rw [Nat.mul_add]; omega
    have e2 : k + (repN m ln i - repK m ln i) = repN m ln i + (k - repK m ln i) := by omega
    have e3 : k = repK m ln i + (k - repK m ln i) := by omega
    have e4 : pw m ln i (k + (repN m ln i - repK m ln i)) = pw m ln i k := by
      rw [e2, h.pw_add hi, ← h2, ← h.pw_add hi, ← e3]
    rw [e, h.pw_add hi, ih, ← h.pw_add hi, e4]
theorem pw_idem {i : Nat} (hi : i < m) : ∃ n, 1 ≤ n ∧ n ≤ repN m ln i ∧ idemB m ln (pw m ln i n) = true := by
  obtain ⟨h1, h2, _⟩ := h.toTb.repK_spec hi
  generalize hK : repK m ln i = K at *
  generalize hN : repN m ln i = N at *
  have hp : 0 < N - K := by omega
  have key : ∀ n, K ≤ n → ∀ q, n = (N - K) * q → idemB m ln (pw m ln i n) = true := fun n hn q hq => by
    unfold idemB
    rw [decide_eq_true_eq, ← h.pw_add hi]
    have := pw_back h hi (k := n) (by rw [hK]; exact hn) q
    rw [hK, hN, ← hq] at this
    exact this
  by_cases h0 : K = 0
  · exact ⟨N - K, hp, by omega, key _ (by omega) 1 (by omega)⟩
  · refine ⟨(N - K) * ((K + (N - K) - 1) / (N - K)), ?_, ?_, key _ ?_ _ rfl⟩
    · have h3 := Nat.div_add_mod (K + (N - K) - 1) (N - K)
      have h4 := Nat.mod_lt (K + (N - K) - 1) hp
      omega
    · have h3 := Nat.div_add_mod (K + (N - K) - 1) (N - K)
      omega
    · have h3 := Nat.div_add_mod (K + (N - K) - 1) (N - K)
      have h4 := Nat.mod_lt (K + (N - K) - 1) hp
      omega
end
end Go.Proofs.YtdhaebbfiaddnaaGreatDoor
namespace Go.Proofs.YtdhaebbfiaddnaaGreatDoor
open Go.RowKit
set_option linter.unusedVariables false
set_option linter.unusedSectionVars false
/-- the element of a letter -/
def eN (y : UInt8) : Nat := y.toNat - 96
theorem eN_lt {x : Nat} (h : x < 4) : eN (lt97 x) = x + 1 := by unfold eN lt97; simp; omega
theorem let_list (x : Nat) : (letterN x).data.toList = [lt97 x] := rfl
def valF (m : Nat) (ln : List Nat) (a : Nat) (v : List UInt8) : Nat := v.foldl (fun a y => tm m ln a (eN y)) a
/-- the value of a word -/
def valL (m : Nat) (ln : List Nat) (v : List UInt8) : Nat := valF m ln 0 v
def okV (m : Nat) (v : List UInt8) : Prop := ∀ y ∈ v, eN y < m
/-- the word of an element -/
def wdE (e : Nat) : ByteArray := if e = 0 then ⟨#[]⟩ else letterN (e - 1)
theorem wdE_zero : wdE 0 = ⟨#[]⟩ := rfl
theorem wdE_pos {e : Nat} (h : e ≠ 0) : wdE e = letterN (e - 1) := if_neg h
theorem wdE_size (e : Nat) : (wdE e).size ≤ 1 := by
  unfold wdE; split
  · exact Nat.zero_le _
  · rw [letterN_size]; exact Nat.le_refl _
def tsRule (m : Nat) (ln : List Nat) (i j : Nat) : RulD := (letterN i ++ letterN j, wdE (tm m ln (i + 1) (j + 1)))
def tsRow (m : Nat) (ln : List Nat) (i j : Nat) : List RulD := (List.range j).map (tsRule m ln i)
def tsTo (m : Nat) (ln : List Nat) (i : Nat) : List RulD := (List.range i).flatMap fun i => tsRow m ln i (m - 1)
def tsR (m : Nat) (ln : List Nat) : List RulD := tsTo m ln (m - 1)
theorem tsRow_succ (m : Nat) (ln : List Nat) (i j : Nat) : tsRow m ln i (j + 1) = tsRow m ln i j ++ [tsRule m ln i j] := by simp [tsRow, List.range_succ]
theorem tsRow_zero (m : Nat) (ln : List Nat) (i : Nat) : tsRow m ln i 0 = [] := rfl
theorem tsTo_succ (m : Nat) (ln : List Nat) (i : Nat) : tsTo m ln (i + 1) = tsTo m ln i ++ tsRow m ln i (m - 1) := by simp [tsTo, List.range_succ, List.flatMap_append]
theorem tsTo_zero (m : Nat) (ln : List Nat) : tsTo m ln 0 = [] := rfl
theorem tsRow_len (m : Nat) (ln : List Nat) (i j : Nat) : (tsRow m ln i j).length = j := by simp [tsRow]
theorem tsTo_len (m : Nat) (ln : List Nat) : ∀ i, (tsTo m ln i).length = i * (m - 1)
  | 0 => by simp [tsTo_zero]
  | i + 1 => by rw [tsTo_succ, List.length_append, tsTo_len m ln i, tsRow_len, Nat.add_mul]; omega
theorem mem_tsR {m : Nat} {ln : List Nat} {r : RulD} : r ∈ tsR m ln ↔ ∃ i j, i < m - 1 ∧ j < m - 1 ∧ r = tsRule m ln i j := by
  unfold tsR tsTo tsRow
  simp only [List.mem_flatMap, List.mem_map, List.mem_range]
  constructor
  · rintro ⟨i, hi, j, hj, rfl⟩; exact ⟨i, j, hi, hj, rfl⟩
  · rintro ⟨i, j, hi, hj, rfl⟩; exact ⟨i, hi, j, hj, rfl⟩
theorem ts_left (m : Nat) (ln : List Nat) (i j : Nat) : (tsRule m ln i j).1.data.toList = [lt97 i, lt97 j] := by
  show (letterN i ++ letterN j).data.toList = _
  rw [ByteArray.data_append, Array.toList_append]
  rfl
theorem ts_left_size (m : Nat) (ln : List Nat) (i j : Nat) : (tsRule m ln i j).1.size = 2 := by
  show (letterN i ++ letterN j).size = 2
  rw [ByteArray.size_append]; rfl
theorem flat_one (l : List Nat) (f : Nat → ByteArray) : l.flatMap (fun x => [f x]) = l.map f := by
  induction l with
  | nil => rfl
  | cons a l ih => rw [List.flatMap_cons, ih]; rfl
section
variable {m : Nat} {ln : List Nat} (h : TabOk m ln)
include h
theorem valF_lt : ∀ (v : List UInt8) (a : Nat), okV m v → a < m → valF m ln a v < m
  | [], a, _, ha => ha
  | y :: v, a, hv, ha => valF_lt v _ (fun z hz => hv z (List.mem_cons_of_mem _ hz)) (h.tm_lt ha (hv y List.mem_cons_self))
theorem valF_tm : ∀ (v : List UInt8) (a : Nat), okV m v → a < m → valF m ln a v = tm m ln a (valF m ln 0 v)
  | [], a, _, ha => (h.right a ha).symm
  | y :: v, a, hv, ha => by
    have hy := hv y List.mem_cons_self
    have hv' : okV m v := fun z hz => hv z (List.mem_cons_of_mem _ hz)
    have h0 := h.lo
    show valF m ln (tm m ln a (eN y)) v = tm m ln a (valF m ln (tm m ln 0 (eN y)) v)
    rw [valF_tm v _ hv' (h.tm_lt ha hy), h.left _ hy, valF_tm v _ hv' hy, h.assoc _ _ _ ha hy (valF_lt h v 0 hv' h0)]
theorem valL_app {u v : List UInt8} (hu : okV m u) (hv : okV m v) : valL m ln (u ++ v) = tm m ln (valL m ln u) (valL m ln v) := by
  unfold valL
  have e : valF m ln 0 (u ++ v) = valF m ln (valF m ln 0 u) v := by unfold valF; rw [List.foldl_append]
  rw [e, valF_tm h v _ hv (valF_lt h u 0 hu h.lo)]
theorem valL_lt {v : List UInt8} (hv : okV m v) : valL m ln v < m := valF_lt h v 0 hv h.lo
theorem val_wdE (hm : m ≤ 4) {e : Nat} (he : e < m) : valL m ln (wdE e).data.toList = e ∧ okV m (wdE e).data.toList := by
  by_cases h0 : e = 0
  · subst h0
    exact ⟨rfl, fun y hy => by cases hy⟩
  · rw [wdE_pos h0, let_list]
    have e1 : eN (lt97 (e - 1)) = e := by rw [eN_lt (by omega)]; omega
    refine ⟨?_, fun y hy => ?_⟩
    · show tm m ln 0 (eN (lt97 (e - 1))) = e
      rw [e1, h.left e he]
    · rw [List.mem_singleton.1 hy, e1]; exact he
theorem okV_of (hm : 1 ≤ m ∧ m ≤ 4) {v : List UInt8} (hv : okLt ((m - 1 : Nat) : Int) v) : okV m v := fun y hy => by
  obtain ⟨x, hx, rfl⟩ := let_lt97 hv y hy
  rw [eN_lt (by omega)]; omega
theorem okLt_wdE (hm : 2 ≤ m ∧ m ≤ 4) {e : Nat} (he : e < m) : okLt ((m - 1 : Nat) : Int) (wdE e).data.toList := by
  unfold wdE
  split
  · intro y hy; cases hy
  · rw [let_list]
    intro y hy
    rw [List.mem_singleton.1 hy]
    exact letB_lt97 (by omega) (by omega)
theorem ts_word (hm : 2 ≤ m ∧ m ≤ 4) {i j : Nat} (hi : i < m - 1) (hj : j < m - 1) : okLt ((m - 1 : Nat) : Int) (tsRule m ln i j).1.data.toList ∧ okLt ((m - 1 : Nat) : Int) (tsRule m ln i j).2.data.toList := by
  refine ⟨?_, okLt_wdE h hm (h.tm_lt (by omega) (by omega))⟩
  rw [ts_left]
  intro y hy
  rcases List.mem_cons.1 hy with rfl | hy
  · exact letB_lt97 (by omega) (by omega)
  · rw [List.mem_singleton.1 hy]; exact letB_lt97 (by omega) (by omega)
theorem ts_sys (hm : 2 ≤ m ∧ m ≤ 4) : sysP ((m - 1 : Nat) : Int) (tsR m ln) := by
  have hk : (1 : Int) ≤ ((m - 1 : Nat) : Int) ∧ ((m - 1 : Nat) : Int) ≤ 4 := by omega
  refine ⟨⟨⟨hk, ?_⟩, fun r hr => ?_⟩, fun r hr => ?_⟩
  · unfold tsR
    rw [tsTo_len]
    exact Nat.le_trans (Nat.mul_le_mul (show m - 1 ≤ 3 by omega) (show m - 1 ≤ 3 by omega)) (by decide)
  · obtain ⟨i, j, hi, hj, rfl⟩ := mem_tsR.1 hr
    obtain ⟨w1, w2⟩ := ts_word h hm hi hj
    have s1 := ts_left_size m ln i j
    have s2 : (tsRule m ln i j).2.size ≤ 1 := wdE_size _
    exact ⟨⟨⟨wordOk_iff.2 ⟨hk, by omega, w1⟩, wordOk_iff.2 ⟨hk, by omega, w2⟩⟩, by omega, by omega⟩, by omega⟩
  · obtain ⟨i, j, hi, hj, rfl⟩ := mem_tsR.1 hr
    have s1 := ts_left_size m ln i j
    have s2 : (tsRule m ln i j).2.size ≤ 1 := wdE_size _
    unfold lessS ltW blW
    refine decide_eq_true (.inl ?_)
    show (tsRule m ln i j).2.size < (tsRule m ln i j).1.size
    omega
theorem stp_val (hm : 2 ≤ m ∧ m ≤ 4) {u v : List UInt8} (hs : Stp (SR (tsR m ln)) u v) (hu : okLt ((m - 1 : Nat) : Int) u) : valL m ln u = valL m ln v ∧ okLt ((m - 1 : Nat) : Int) v := by
  obtain ⟨x, _, _, y, ⟨p, hp, rfl, rfl⟩, rfl, rfl⟩ := hs
  obtain ⟨i, j, hi, hj, rfl⟩ := mem_tsR.1 hp
  obtain ⟨w1, w2⟩ := ts_word h hm hi hj
  have hx : okLt ((m - 1 : Nat) : Int) x := fun z hz => hu z (List.mem_append_left _ hz)
  have hy : okLt ((m - 1 : Nat) : Int) y := fun z hz => hu z (List.mem_append_right _ (List.mem_append_right _ hz))
  have hm' : 1 ≤ m ∧ m ≤ 4 := by omega
  have ox := okV_of h hm' hx
  have oy := okV_of h hm' hy
  have o1 := okV_of h hm' w1
  have o2 := okV_of h hm' w2
  have app : ∀ {a b : List UInt8}, okV m a → okV m b → okV m (a ++ b) := fun ha hb z hz => by
    rcases List.mem_append.1 hz with hz | hz
    · exact ha z hz
    · exact hb z hz
  have e1 : valL m ln (tsRule m ln i j).1.data.toList = tm m ln (i + 1) (j + 1) := by
    rw [ts_left]
    show tm m ln (tm m ln 0 (eN (lt97 i))) (eN (lt97 j)) = _
    rw [eN_lt (by omega), eN_lt (by omega), h.left _ (by omega)]
  have e2 : valL m ln (tsRule m ln i j).2.data.toList = tm m ln (i + 1) (j + 1) := (val_wdE h (by omega) (h.tm_lt (by omega) (by omega))).1
  refine ⟨?_, fun z hz => ?_⟩
  · rw [valL_app h ox (app o1 oy), valL_app h o1 oy, valL_app h ox (app o2 oy), valL_app h o2 oy, e1, e2]
  · rcases List.mem_append.1 hz with hz | hz
    · exact hx z hz
    · rcases List.mem_append.1 hz with hz | hz
      · exact w2 z hz
      · exact hy z hz
theorem red_val (hm : 2 ≤ m ∧ m ≤ 4) {u v : List UInt8} (hr : Red (SR (tsR m ln)) u v) : okLt ((m - 1 : Nat) : Int) u → valL m ln u = valL m ln v ∧ okLt ((m - 1 : Nat) : Int) v := by
  induction hr with
  | refl u => exact fun hu => ⟨rfl, hu⟩
  | step hs _ ih =>
    intro hu
    obtain ⟨h1, h2⟩ := stp_val h hm hs hu
    obtain ⟨h3, h4⟩ := ih h2
    exact ⟨h1.trans h3, h4⟩
theorem irr_short (hm : 2 ≤ m ∧ m ≤ 4) {v : List UInt8} (hi : Irr (SR (tsR m ln)) v) (hv : okLt ((m - 1 : Nat) : Int) v) : v.length ≤ 1 := by
  match v, hi, hv with
  | [], _, _ => exact Nat.zero_le _
  | [_], _, _ => exact Nat.le_refl _
  | a :: b :: t, hi, hv =>
    exfalso
    obtain ⟨i, hi1, rfl⟩ := let_lt97 hv a List.mem_cons_self
    obtain ⟨j, hj1, rfl⟩ := let_lt97 hv b (List.mem_cons_of_mem _ List.mem_cons_self)
    exact hi _ ⟨[], _, _, t, ⟨tsRule m ln i j, mem_tsR.2 ⟨i, j, hi1, hj1, rfl⟩, rfl, rfl⟩, by rw [ts_left]; rfl, rfl⟩
theorem norm_val (hm : 2 ≤ m ∧ m ≤ 4) {w x : ByteArray} (hn : NormIs (tsR m ln) w x) (hw : wordOkB ((m - 1 : Nat) : Int) w = true) : x = wdE (valL m ln w.data.toList) := by
  have hs := ts_sys h hm
  obtain ⟨hr, hi⟩ := norm_nf (sys_ne hs.1) hn
  obtain ⟨e1, hx⟩ := red_val h hm hr (wordOk_iff.1 hw).2.2
  have hl := irr_short h hm hi hx
  rw [e1]
  match hd : x.data.toList, hl with
  | [], _ => exact ba_lists (by rw [hd]; rfl)
  | [y], _ =>
    rw [hd] at hx
    obtain ⟨i, hi1, rfl⟩ := let_lt97 hx y List.mem_cons_self
    refine ba_lists ?_
    have e2 : valL m ln [lt97 i] = i + 1 := by
      show tm m ln 0 (eN (lt97 i)) = _
      rw [eN_lt (by omega), h.left _ (by omega)]
    rw [hd, e2, wdE_pos (by omega), let_list]
    rfl
theorem ts_comp (hm : 2 ≤ m ∧ m ≤ 4) : ComplP ((m - 1 : Nat) : Int) (tsR m ln) := by
  have hs := ts_sys h hm
  refine ⟨hs, ?_⟩
  unfold openF openL
  rw [List.filter_eq_nil_iff]
  intro p hp
  have hok := pairOk hs hp
  have w1 := step_word hs hok.word hok.one
  have w2 := step_word hs hok.word hok.two
  obtain ⟨x, hx, _⟩ := NormIs.ex hs _ _ (Nat.lt_succ_self _) w1
  obtain ⟨y, hy, _⟩ := NormIs.ex hs _ _ (Nat.lt_succ_self _) w2
  have v1 := (stp_val h hm (step_stp hok.one) (wordOk_iff.1 hok.word).2.2).1
  have v2 := (stp_val h hm (step_stp hok.two) (wordOk_iff.1 hok.word).2.2).1
  have e : x = y := by rw [norm_val h hm hx w1, norm_val h hm hy w2, ← v1, ← v2]
  have hj : Joined (tsR m ln) p := ⟨x, hx, by rw [e]; exact hy⟩
  simp [hj]
theorem ok_none (x : Nat) : okX (tsR m ln) ⟨#[]⟩ x = true := by
  unfold okX
  rw [Bool.not_eq_true', Bool.eq_false_iff]
  intro e
  obtain ⟨r, hr, hsuf⟩ := endsR_iff.1 e
  obtain ⟨i, j, _, _, rfl⟩ := mem_tsR.1 hr
  unfold sufBB at hsuf
  rw [ts_left, List.isSuffixOf_iff_suffix] at hsuf
  have := hsuf.length_le
  rw [app_lt] at this
  simp at this
theorem ok_one {x y : Nat} (hx : x < m - 1) (hy : y < m - 1) : okX (tsR m ln) (⟨#[]⟩ ++ letterN x) y = false := by
  unfold okX
  rw [Bool.not_eq_false']
  refine endsR_iff.2 ⟨_, mem_tsR.2 ⟨x, y, hx, hy, rfl⟩, ?_⟩
  unfold sufBB
  rw [ts_left, List.isSuffixOf_iff_suffix, app_lt, app_lt]
  exact List.suffix_refl _
theorem sum_map_zero (l : List Nat) (f : Nat → Nat) (hf : ∀ x ∈ l, f x = 0) : (l.map f).sum = 0 := by
  induction l with
  | nil => rfl
  | cons a l ih => rw [List.map_cons, List.sum_cons, hf a List.mem_cons_self, ih (fun x hx => hf x (List.mem_cons_of_mem _ hx))]
theorem ts_path1 : paths (tsR m ln) (m - 1) 1 ⟨#[]⟩ = m - 1 := by
  show ((List.range (m - 1)).map fun x => if okX (tsR m ln) ⟨#[]⟩ x = true then paths (tsR m ln) (m - 1) 0 (nxtX (tsR m ln) ⟨#[]⟩ x) else 0).sum = _
  have e : (fun x => if okX (tsR m ln) ⟨#[]⟩ x = true then paths (tsR m ln) (m - 1) 0 (nxtX (tsR m ln) ⟨#[]⟩ x) else 0) = fun _ => 1 := by
    funext x
    rw [if_pos (ok_none h x)]
    rfl
  rw [e, sum_const, List.length_range, Nat.mul_one]
theorem ts_path2 (hm : 2 ≤ m ∧ m ≤ 4) : paths (tsR m ln) (m - 1) 2 ⟨#[]⟩ = 0 := by
  have hne : LeftsP (tsR m ln) := (sysG_of (ts_sys h hm)).ne
  show ((List.range (m - 1)).map fun x => if okX (tsR m ln) ⟨#[]⟩ x = true then paths (tsR m ln) (m - 1) 1 (nxtX (tsR m ln) ⟨#[]⟩ x) else 0).sum = 0
  refine sum_map_zero h _ _ fun x hx => ?_
  rw [if_pos (ok_none h x), paths_nxt hne]
  refine sum_map_zero h _ _ fun y hy => ?_
  rw [ok_one h (List.mem_range.1 hx) (List.mem_range.1 hy)]
  rfl
theorem ts_ht (hm : 2 ≤ m ∧ m ≤ 4) : HtIs (tsR m ln) (m - 1) ⟨#[]⟩ 1 := .inr ⟨1, rfl, by rw [ts_path1 h]; omega, ts_path2 h hm⟩
theorem ts_go (hm : 2 ≤ m ∧ m ≤ 4) : GoM ((m - 1 : Nat) : Int) (tsR m ln) ∧ ∃ c, CntIs ((m - 1 : Nat) : Int) (tsR m ln) c ∧ 0 ≤ c ∧ c ≤ 256 := by
  have hl : LngIs ((m - 1 : Nat) : Int) (tsR m ln) 1 := .inr ⟨ts_sys h hm, ts_ht h hm⟩
  have hc : CntIs ((m - 1 : Nat) : Int) (tsR m ln) ((pSum (tsR m ln) (m - 1) 2 : Nat) : Int) := ⟨1, hl, .inr ⟨by decide, rfl⟩⟩
  have hp : pSum (tsR m ln) (m - 1) 2 = m := by
    rw [pSum_succ, pSum_succ, ts_path1 h]
    show 0 + 1 + (m - 1) = m
    omega
  rw [hp] at hc
  exact ⟨⟨ts_comp h hm, ⟨_, hc, by omega, by omega⟩, 1, hl, by decide⟩, _, hc, by omega, by omega⟩
theorem ts_words (hm : 2 ≤ m ∧ m ≤ 4) : outTo (tsR m ln) (m - 1) 2 = (List.range m).map wdE := by
  have e1 : wordsF (tsR m ln) (m - 1) 1 ⟨#[]⟩ = (List.range (m - 1)).map letterN := by
    show ((List.range (m - 1)).flatMap fun x => if okX (tsR m ln) ⟨#[]⟩ x = true then [(⟨#[]⟩ : ByteArray) ++ letterN x] else []) = _
    have e : (fun x => if okX (tsR m ln) ⟨#[]⟩ x = true then [(⟨#[]⟩ : ByteArray) ++ letterN x] else []) = fun x => [letterN x] := by
      funext x
      rw [if_pos (ok_none h x)]
      congr 1
    rw [e]
    exact flat_one _ _
  have e2 : outTo (tsR m ln) (m - 1) 2 = [⟨#[]⟩] ++ wordsF (tsR m ln) (m - 1) 1 ⟨#[]⟩ := by
    unfold outTo
    simp [List.range_succ, wordsF]
  rw [e2, e1]
  obtain ⟨d, rfl⟩ : ∃ d, m = d + 1 := ⟨m - 1, by omega⟩
  rw [List.range_succ_eq_map, List.map_cons, List.map_map]
  rfl
theorem ts_mon (hm : 2 ≤ m ∧ m ≤ 4) {L : List ByteArray} {P : List Int} {f : Bool} (hM : MonIs ((m - 1 : Nat) : Int) (tsR m ln) L P f) : f = true ∧ L.length = m ∧ P = ln.map Int.ofNat := by
  obtain ⟨hg, hc⟩ := ts_go h hm
  rcases hM with ⟨h1, _⟩ | ⟨_, hA, rfl, rfl⟩
  · exact absurd hg h1
  rcases hA with ⟨h1, _⟩ | ⟨kn, hh, hk, hht, _, rfl, _, _⟩
  · exact absurd hc h1
  obtain rfl : kn = m - 1 := by omega
  have h1 := hht.uniq (ts_ht h hm)
  obtain rfl : hh = 1 := by omega
  rw [ts_words h hm]
  have hlen : ((List.range m).map wdE).length = m := by simp
  have hnth : ∀ i, i < m → nthS ((List.range m).map wdE) i = wdE i := fun i hi => by
    rw [nthS_lt (by rw [hlen]; exact hi)]; simp
  refine ⟨rfl, hlen, ?_⟩
  have hs := ts_sys h hm
  have hpl : (prodF (tsR m ln) ((List.range m).map wdE)).length = m * m := by
    rw [← prodTo_done, prodTo_len, hlen]; rfl
  refine List.ext_getElem? fun q => ?_
  by_cases hq : q < m * m
  · have hm0 : 0 < m := by omega
    have hq1 : q / m < m := Nat.div_lt_of_lt_mul (by omega)
    have hq2 : q % m < m := Nat.mod_lt _ hm0
    have eq1 : q / m * m + q % m = q := by rw [Nat.mul_comm]; exact Nat.div_add_mod q m
    have hat := prodF_at (tsR m ln) ((List.range m).map wdE) (i := q / m) (j := q % m) (by rw [hlen]; exact hq1) (by rw [hlen]; exact hq2)
    rw [hlen, eq1, hnth _ hq1, hnth _ hq2] at hat
    rw [hat]
    obtain ⟨a1, a2⟩ := val_wdE h (by omega) hq1
    obtain ⟨b1, b2⟩ := val_wdE h (by omega) hq2
    have hw : wordOkB ((m - 1 : Nat) : Int) (wdE (q / m) ++ wdE (q % m)) = true := by
      refine wordOk_iff.2 ⟨by omega, ?_, fun y hy => ?_⟩
      · have := wdE_size (q / m); have := wdE_size (q % m)
        rw [ByteArray.size_append]; omega
      · rw [ByteArray.data_append, Array.toList_append] at hy
        rcases List.mem_append.1 hy with hy | hy
        · exact okLt_wdE h hm hq1 y hy
        · exact okLt_wdE h hm hq2 y hy
    obtain ⟨x, hx, _⟩ := NormIs.ex hs _ _ (Nat.lt_succ_self _) hw
    have ev : valL m ln (wdE (q / m) ++ wdE (q % m)).data.toList = tm m ln (q / m) (q % m) := by
      rw [ByteArray.data_append, Array.toList_append, valL_app h a2 b2, a1, b1]
    have hlt := h.tm_lt hq1 hq2
    rw [nfC_eq hx, norm_val h hm hx hw, ev]
    obtain ⟨p, hp, e1, e2⟩ := idxB_mem (L := (List.range m).map wdE) (v := wdE (tm m ln (q / m) (q % m))) (List.mem_map.2 ⟨_, List.mem_range.2 hlt, rfl⟩)
    rw [hlen] at hp
    rw [hnth p hp] at e2
    have e3 : p = tm m ln (q / m) (q % m) := by
      rw [← (val_wdE h (by omega) hp).1, e2, (val_wdE h (by omega) hlt).1]
    rw [e1, e3]
    unfold tm
    rw [eq1, List.getElem?_map, List.getD_eq_getElem?_getD, List.getElem?_eq_getElem (by rw [h.len]; exact hq)]
    rfl
  · rw [List.getElem?_eq_none (by rw [hpl]; omega), List.getElem?_eq_none (by rw [List.length_map, h.len]; omega)]
end
end Go.Proofs.YtdhaebbfiaddnaaGreatDoor
namespace Go.Proofs.YtdhaebbfiaddnaaGreatDoor
open Go.RowKit Go.Sort
set_option linter.unusedVariables false
theorem owns_block_of {w : World} {base g cap n : Nat} {T : TypeId} {xs : List Value} (h : w.ownsRow base T 1 (.slice (some ⟨g, 0, none⟩) n cap) n xs) : ∃ cur, base ≤ g ∧ w.heap[g]? = some (.cells cur T (0, 0)) ∧ n ≤ cap ∧ cap ≤ maxLen ∧ cur.size = cap * 1 ∧ cur.toList.take n = xs := by
  rcases h.2 with ⟨hv, _⟩ | ⟨g', cap', cur, hv, hb, hg, hn, hc, hs, ht⟩
  · cases hv
  · simp only [Value.slice.injEq, Option.some.injEq, Addr.mk.injEq, and_true, true_and] at hv
    obtain ⟨rfl, rfl⟩ := hv
    exact ⟨cur, hb, hg, hn, hc, hs, by simpa using ht⟩
theorem owns_shrink {w : World} {base g cap n k : Nat} {T : TypeId} {xs : List Value} (h : w.ownsRow base T 1 (.slice (some ⟨g, 0, none⟩) n cap) n xs) (hk : k ≤ n) : w.ownsRow base T 1 (.slice (some ⟨g, 0, none⟩) k cap) k (xs.take k) := by
  have hl := h.1
  obtain ⟨cur, h1, h2, h3, h4, h5, h6⟩ := owns_block_of h
  refine ⟨by rw [List.length_take]; omega, .inr ⟨g, cap, cur, rfl, h1, h2, by omega, h4, h5, ?_⟩⟩
  rw [← h6, List.take_take]
  congr 1; omega
theorem grow_none (w : World) : grow w #[] = w := by simp [grow]
end Go.Proofs.YtdhaebbfiaddnaaGreatDoor
namespace Go.Proofs.YtdhaebbfiaddnaaGreatDoor
open Go.RowKit
set_option linter.unusedVariables false
theorem alloc_belI (w : World) (o : Obj) : Below w.heap.size w (w.alloc o) := (Below.refl _ _).alloc (Nat.le_refl _) _
theorem intVals_snoc (x : Int) (l : List Int) : intVals (l ++ [x]) = intVals l ++ [.int .i64 x] := by simp [intVals]
end Go.Proofs.YtdhaebbfiaddnaaGreatDoor
namespace Go.Proofs.YtdhaebbfiaddnaaGreatDoor
open Go.RowKit
set_option linter.unusedVariables false
/-- the record at block g since w: its first field x, its second one the slice v of n elements with the cells xs -/
structure Rec2 (TT T : TypeId) (size : Nat) (w wr : World) (g : Nat) (x v : Value) (n : Nat) (xs : List Value) : Prop where
  blk : wr.heap[g]? = some (.cells #[x, v] TT (0, 0))
  own : wr.ownsRow (g + 1) T size v n xs
  le : w.heap.size ≤ g
  below : Below w.heap.size w wr
section
variable {TT T : TypeId} {size : Nat} {w wr : World} {g : Nat} {x v : Value} {n : Nat} {xs : List Value}
theorem rec_cells {W : World} {b : Nat} {x y : Value} {T : TypeId} (h : W.heap[b]? = some (.cells #[x, y] T (0, 0))) : W.cell? ⟨b, 0, none⟩ = some x ∧ W.cell? ⟨b, 1, none⟩ = some y ∧ W.frozen? ⟨b, 0, none⟩ = false ∧ W.frozen? ⟨b, 1, none⟩ = false := by
  refine ⟨by simp [World.cell?, h], by simp [World.cell?, h], by simp [World.frozen?, h], by simp [World.frozen?, h]⟩
theorem Rec2.facts (h : Rec2 TT T size w wr g x v n xs) : wr.cell? ⟨g, 0, none⟩ = some x ∧ wr.cell? ⟨g, 1, none⟩ = some v ∧ wr.frozen? ⟨g, 0, none⟩ = false ∧ wr.frozen? ⟨g, 1, none⟩ = false := rec_cells h.blk
theorem Rec2.lt (h : Rec2 TT T size w wr g x v n xs) : g < wr.heap.size := (Array.getElem?_eq_some_iff.1 h.blk).1
theorem Rec2.later {wr' : World} (h : Rec2 TT T size w wr g x v n xs) (hb : Below wr.heap.size wr wr') : Rec2 TT T size w wr' g x v n xs :=
  ⟨(hb.block g h.lt).trans h.blk, owns_later h.own hb, h.le, Below.now h.below hb⟩
theorem Rec2.far (h : Rec2 TT T size w wr g x v n xs) : v.ownBlock ≠ some g := fun e => by have := (h.own.lt g e).1; omega
/-- what a new record is, its slice nil -/
theorem Rec2.start (TT T : TypeId) (size : Nat) {w w1 : World} (hb : Below w.heap.size w w1) (x : Value) : Rec2 TT T size w (w1.alloc (.cells #[x, .slice none 0 0] TT)) w1.heap.size x (.slice none 0 0) 0 [] :=
  ⟨alloc_at _ _, World.ownsRow_nil _ _ _ _, hb.size, hb.alloc hb.size _⟩
/-- the cells of the record once the slice has been appended to -/
theorem Rec2.grown {w2 w4 : World} {ob : Obj} (h : Rec2 TT T size w wr g x v n xs) (hb : Below wr.heap.size wr w2) (hg : (w2.alloc ob).grownBy w4 v.ownBlock) : w4.heap[g]? = some (.cells #[x, v] TT (0, 0)) := by
  have h2 := h.later (hb.alloc hb.size ob)
  exact (hg.block g h2.lt (fun e => h.far e.symm)).trans h2.blk
/-- the slice that was appended to is stored -/
theorem Rec2.put {w2 w4 : World} {ob : Obj} {v' : Value} {m : Nat} {ys : List Value} (h : Rec2 TT T size w wr g x v n xs) (hb : Below wr.heap.size wr w2) (hg : (w2.alloc ob).grownBy w4 v.ownBlock) (hn : w4.ownsRow (g + 1) T size v' m ys) :
    Rec2 TT T size w (w4.setCell ⟨g, 1, none⟩ v') g x v' m ys := by
  have h2 := h.later (hb.alloc hb.size ob)
  have h4 := h.grown hb hg
  have b4 : Below w.heap.size w w4 := h2.below.grown hg h2.below.size (fun k hk => by have := (h.own.lt k hk).1; have := h.le; omega)
  refine ⟨?_, ownsRow_setCell_below hn (by show g < g + 1; omega) _, h.le, b4.setCell h.le _⟩
  unfold World.setCell
  simp [Array.getElem?_modify, h4]
end
section
variable {P : Program}
/-- append of one element to a row that lies from H on, at a step of a region that draws its order -/
theorem step_appH {ops : Array Oper} {o : Oper} {a : Act} {K : Act → World → Prop} {Q : Exit → Act → World → Prop} {E : Prop} {T tsl : TypeId} {z : Value} {size bytes : Nat} (hg : o.guard = none) (s x : Operand)
    (ho : o.op = .call { callee := .builtin .append, args := #[s, x], argTypes := #[tsl, tsl] }) (ht : P.underlying tsl = some (.slice T)) (hinfo : (P.info? T).map (fun i => (i.zero, i.size, i.bytes)) = some (some z, size, bytes))
    (hzs : z.cells.size = size) (hpos : 0 < size) {H : Nat} {wr : World} {v : Value} {n : Nat} {xs news : List Value} (hs : a.eval s = v) (hb : wr.ownsRow H T size v n xs) (hH : H ≤ wr.heap.size) (hx : a.eval x = .slice (some ⟨wr.heap.size, 0, none⟩) 1 1)
    (hn : news.length = size) (h1 : ∀ u ∈ news, u.oneCell' = true) (h63 : n + 1 ≤ maxLen) (hbytes : (n + 1) * bytes ≤ 140737488355328)
    (hK : ∀ g cap w', w'.ownsRow H T size (.slice (some ⟨g, 0, none⟩) (n + 1) cap) (n + 1) (xs ++ news) → (wr.alloc (.cells news.toArray T)).grownBy w' v.ownBlock → K (a.put o.dst (.slice (some ⟨g, 0, none⟩) (n + 1) cap)) w') :
    if Region.wanted o (yielded ops a.tmps) = true then Oper.wp P o a (wr.alloc (.cells news.toArray T)) K Q else E := by
  obtain ⟨i0, hi, hz0, hz1, hz2⟩ := info_parts hinfo
  refine step_append_lies (w := wr.alloc (.cells news.toArray T)) hg s x tsl ho H T i0 z size bytes ht hi hz0 hz1 hz2 hzs hpos v n xs hs (hb.alloc _) ⟨wr.heap.size, 0, none⟩ 1 1 news hx (by omega) ?_ h1 (by omega) h63 hbytes ?_ _ rfl ?_
  · intro j u hu
    have hadd : (⟨wr.heap.size, 0, none⟩ : Addr).add j = ⟨wr.heap.size, j, none⟩ := by unfold Addr.add; split <;> simp_all
    rw [hadd, World.cell?_alloc_new]
    simpa using hu
  · simp; omega
  · intro g cap w' hown hgr ho _
    exact hK g cap w' hown hgr
end
end Go.Proofs.YtdhaebbfiaddnaaGreatDoor
namespace Go.Proofs.YtdhaebbfiaddnaaGreatDoor
open Go.RowKit
set_option linter.unusedVariables false
theorem Tryz.infoInts : (Tryz.prog.info? 49).map (fun i => (i.zero, i.size, i.bytes)) = some (some (.slice none 0 0), 1, 24) := by kernel_rfl
theorem box1_cells {W : World} {b : Nat} {x : Value} {T : TypeId} (h : W.heap[b]? = some (.cells #[x] T (0, 0))) : W.cell? ⟨b, 0, none⟩ = some x ∧ W.frozen? ⟨b, 0, none⟩ = false := ⟨by simp [World.cell?, h], by simp [World.frozen?, h]⟩
/-- rows of integers in memory of the call's own -/
def RowsAt (wr : World) (g : Nat) (key : Nat → List Int) (vals : List Value) : Prop :=
  ∀ j, j < vals.length → ∃ a cap, vals[j]? = some (.slice a (key j).length cap) ∧ wr.ownsRow (g + 1) 3 1 (.slice a (key j).length cap) (key j).length (intVals (key j))
section
variable {w wr : World} {g : Nat} {v : Value} {c : Nat} {key : Nat → List Int} {vals : List Value}
theorem RowsAt.later {w' : World} (h : RowsAt wr g key vals) (hb : Below wr.heap.size wr w') : RowsAt w' g key vals := fun j hj => by
  obtain ⟨a, cap, h1, h2⟩ := h j hj
  exact ⟨a, cap, h1, owns_later h2 hb⟩
theorem row_apart {W : World} {base : Nat} {a : Option Addr} {n cap m k : Nat} {x : Value} {xs ys : List Value} (h1 : W.ownsRow base 49 1 x m xs) (h2 : W.ownsRow base 3 1 (.slice a n cap) k ys) : ∀ b, x.ownBlock = some b → (Value.slice a n cap).ownBlock ≠ some b := fun b hb e => by
  obtain ⟨ax, cx, rfl⟩ := owns_form h1
  cases ax with
  | none => simp [Value.ownBlock] at hb
  | some p =>
    cases a with
    | none => simp [Value.ownBlock] at e
    | some q =>
      simp only [Value.ownBlock, Option.some.injEq] at hb e
      rcases h1.2 with ⟨hv, _⟩ | ⟨g1, c1, cur1, hv1, _, hg1, _⟩
      · simp at hv
      rcases h2.2 with ⟨hv, _⟩ | ⟨g2, c2, cur2, hv2, _, hg2, _⟩
      · simp at hv
      simp only [Value.slice.injEq, Option.some.injEq] at hv1 hv2
      obtain ⟨rfl, _, _⟩ := hv1
      obtain ⟨rfl, _, _⟩ := hv2
      simp only at hb e
      subst hb
      subst e
      rw [hg1] at hg2
      simp at hg2
end
end Go.Proofs.YtdhaebbfiaddnaaGreatDoor
