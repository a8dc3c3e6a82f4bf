/-
  First steps, apply and normal of the program, for rules that make a word less, however many they are (up to 13).
-/
import Derived.Test.YtoddpmdjjgnpgaaGreatDoorGra04
import Derived.Test.YtoddpmdjjgnpgaaGreatDoorGra01
import Derived.Test.YtoddpmdjjgnpgaaGreatDoorGra03
import Derived.Test.YtoddpmdjjgnpgaaGreatDoorGra05
namespace Go.Proofs.YtoddpmdjjgnpgaaGreatDoor
open Go.RowKit
set_option linter.unusedVariables false
/-- the letters a .. d alone -/
def LW (v : List UInt8) : Prop := ∀ y ∈ v, 97 ≤ y.toNat ∧ y.toNat ≤ 100
theorem LW.app {u v : List UInt8} (hu : LW u) (hv : LW v) : LW (u ++ v) := fun y hy => by
  rcases List.mem_append.1 hy with h | h
  · exact hu y h
  · exact hv y h
theorem LW.sub {u v : List UInt8} (h : LW v) (hs : u.Sublist v) : LW u := fun y hy => h y (hs.subset hy)
/-- the number of a word: its letters as the digits 1 to 4 in base 5 -/
def rkL : List UInt8 → Nat → Nat
  | [], a => a
  | y :: v, a => rkL v (a * 5 + (y.toNat - 96))
def rk (v : List UInt8) : Nat := rkL v 0
theorem rkL_add : ∀ (v : List UInt8) (a : Nat), rkL v a = a * 5 ^ v.length + rk v
  | [], a => by simp [rkL, rk]
  | y :: v, a => by
    unfold rk
    simp only [rkL]
    rw [rkL_add v, rkL_add v (0 * 5 + _)]
    rw [List.length_cons, Nat.pow_succ, Nat.add_mul, Nat.zero_mul, Nat.zero_add, Nat.mul_comm (5 ^ v.length) 5, ← Nat.mul_assoc]
    omega
theorem rk_app (u v : List UInt8) : rk (u ++ v) = rk u * 5 ^ v.length + rk v := by
  have h : ∀ (u : List UInt8) (a : Nat), rkL (u ++ v) a = rkL v (rkL u a) := fun u => by
    induction u with
    | nil => intro a; rfl
    | cons y u ih => intro a; exact ih _
  unfold rk
  rw [h, rkL_add]
  rfl
theorem rk_cons (y : UInt8) (v : List UInt8) : rk (y :: v) = (y.toNat - 96) * 5 ^ v.length + rk v := by
  have h := rk_app [y] v
  have e : rk [y] = y.toNat - 96 := by simp [rk, rkL]
  rw [e] at h
  exact h
theorem rk_lt : ∀ {v : List UInt8}, LW v → rk v < 5 ^ v.length
  | [], _ => by simp [rk, rkL]
  | y :: v, h => by
    have ih := rk_lt (v := v) (fun z hz => h z (List.mem_cons_of_mem _ hz))
    have h1 := h y List.mem_cons_self
    rw [rk_cons, List.length_cons, Nat.pow_succ]
    have h2 : (y.toNat - 96) * 5 ^ v.length ≤ 4 * 5 ^ v.length := Nat.mul_le_mul_right _ (by omega)
    omega
theorem rk_ge {y : UInt8} {v : List UInt8} (h : LW (y :: v)) : 5 ^ v.length ≤ rk (y :: v) := by
  have h1 := h y List.mem_cons_self
  rw [rk_cons]
  have h2 : 1 * 5 ^ v.length ≤ (y.toNat - 96) * 5 ^ v.length := Nat.mul_le_mul_right _ (by omega)
  omega
theorem rk_lex : ∀ {u v : List UInt8}, LW u → LW v → u.length = v.length → u < v → rk u < rk v
  | [], [], _, _, _, h => absurd h (List.lt_irrefl _)
  | [], _ :: _, _, _, h, _ => by simp at h
  | _ :: _, [], _, _, h, _ => by simp at h
  | a :: u, b :: v, hu, hv, hl, h => by
    have hl2 : u.length = v.length := by simpa using hl
    have hu2 : LW u := fun z hz => hu z (List.mem_cons_of_mem _ hz)
    have hv2 : LW v := fun z hz => hv z (List.mem_cons_of_mem _ hz)
    have ha := hu a List.mem_cons_self
    have hb := hv b List.mem_cons_self
    rw [rk_cons, rk_cons, hl2]
    rcases List.cons_lt_cons_iff.1 h with h1 | ⟨rfl, h1⟩
    · have h2 := UInt8.lt_iff_toNat_lt.1 h1
      have h3 := rk_lt hu2
      rw [hl2] at h3
      have h4 : (a.toNat - 96 + 1) * 5 ^ v.length ≤ (b.toNat - 96) * 5 ^ v.length := Nat.mul_le_mul_right _ (by omega)
      rw [Nat.add_mul] at h4
      omega
    · have := rk_lex hu2 hv2 hl2 h1
      omega
theorem rk_less {u v : List UInt8} (hu : LW u) (hv : LW v) (h : ltW u v = true) : rk u < rk v := by
  unfold ltW at h
  rcases of_decide_eq_true h with h | ⟨h1, h2⟩
  · cases v with
    | nil => simp at h
    | cons y v =>
      have h1 := rk_lt hu
      have h2 := rk_ge hv
      have h3 : 5 ^ u.length ≤ 5 ^ v.length := Nat.pow_le_pow_right (by omega) (by simp at h; omega)
      omega
  · exact rk_lex hu hv h1 h2
theorem rk_swap {u x y v : List UInt8} (hx : LW x) (hy : LW y) (h : ltW y x = true) : rk (u ++ (y ++ v)) < rk (u ++ (x ++ v)) := by
  have hlen : y.length ≤ x.length := by
    unfold ltW at h
    rcases of_decide_eq_true h with h | ⟨h, _⟩ <;> omega
  have h1 := rk_less hy hx h
  rw [rk_app u (y ++ v), rk_app u (x ++ v), rk_app y v, rk_app x v, List.length_append, List.length_append, Nat.pow_add, Nat.pow_add]
  have h2 : 5 ^ y.length ≤ 5 ^ x.length := Nat.pow_le_pow_right (by omega) hlen
  have h3 : rk u * (5 ^ y.length * 5 ^ v.length) ≤ rk u * (5 ^ x.length * 5 ^ v.length) := Nat.mul_le_mul_left _ (Nat.mul_le_mul_right _ h2)
  have h4 : (rk y + 1) * 5 ^ v.length ≤ rk x * 5 ^ v.length := Nat.mul_le_mul_right _ h1
  have h5 : 1 ≤ 5 ^ v.length := Nat.one_le_pow _ _ (by omega)
  rw [Nat.add_mul, Nat.one_mul] at h4
  omega
/-- l lies in w at the place i -/
def preAt (w : ByteArray) (i : Nat) (l : ByteArray) : Bool := l.data.toList.isPrefixOf (w.data.toList.drop i)
theorem preAt_fits {w l : ByteArray} {i : Nat} (h : preAt w i l = true) (hl : 0 < l.size) : i + l.size ≤ w.size := by
  have h1 := (List.isPrefixOf_iff_prefix.1 h).length_le
  have h2 : l.data.toList.length = l.size := rfl
  have h3 : w.data.toList.length = w.size := rfl
  rw [List.length_drop] at h1
  omega
/-- the steps with a rule at a place (the first k rules) -/
def stAt (R : List RulD) (w : ByteArray) (i k : Nat) : List (Nat × Nat) := ((List.range k).filter fun r => preAt w i (nthR R r).1).map fun r => (r, i)
/-- the steps at the places before i, and with the rules before k at i -/
def stTo (R : List RulD) (w : ByteArray) (i k : Nat) : List (Nat × Nat) := ((List.range i).flatMap fun j => stAt R w j R.length) ++ stAt R w i k
/-- all steps, by place and then by rule -/
def stepsF (R : List RulD) (w : ByteArray) : List (Nat × Nat) := (List.range w.size).flatMap fun j => stAt R w j R.length
theorem stAt_zero (R : List RulD) (w : ByteArray) (i : Nat) : stAt R w i 0 = [] := rfl
theorem stTo_yes {R : List RulD} {w : ByteArray} {i k : Nat} (h : preAt w i (nthR R k).1 = true) : stTo R w i (k + 1) = stTo R w i k ++ [(k, i)] := by
  unfold stTo stAt
  rw [List.range_succ, List.filter_append, List.map_append, List.append_assoc]
  simp [h]
theorem stTo_no {R : List RulD} {w : ByteArray} {i k : Nat} (h : preAt w i (nthR R k).1 = false) : stTo R w i (k + 1) = stTo R w i k := by
  unfold stTo stAt
  rw [List.range_succ, List.filter_append, List.map_append]
  simp [h]
theorem stTo_next (R : List RulD) (w : ByteArray) (i : Nat) : stTo R w i R.length = stTo R w (i + 1) 0 := by
  unfold stTo
  rw [stAt_zero, List.append_nil, List.range_succ, List.flatMap_append]
  simp
theorem stTo_done (R : List RulD) (w : ByteArray) : stTo R w w.size 0 = stepsF R w := by
  unfold stTo stepsF
  rw [stAt_zero, List.append_nil]
theorem stAt_pre (R : List RulD) (w : ByteArray) (i : Nat) {j k : Nat} (h : j ≤ k) : stAt R w i j <+: stAt R w i k := by
  unfold stAt
  refine List.IsPrefix.map _ (List.IsPrefix.filter _ ?_)
  obtain ⟨d, rfl⟩ := Nat.exists_eq_add_of_le h
  rw [List.range_add]
  exact List.prefix_append _ _
theorem stTo_rows (R : List RulD) (w : ByteArray) {i j : Nat} (h : i ≤ j) : stTo R w i 0 <+: stTo R w j 0 := by
  unfold stTo
  rw [stAt_zero, stAt_zero, List.append_nil, List.append_nil]
  obtain ⟨d, rfl⟩ := Nat.exists_eq_add_of_le h
  rw [List.range_add, List.flatMap_append]
  exact List.prefix_append _ _
theorem stTo_pre {R : List RulD} {w : ByteArray} {i k : Nat} (hi : i < w.size) (hk : k ≤ R.length) : stTo R w i k <+: stepsF R w := by
  rw [← stTo_done]
  refine List.IsPrefix.trans ?_ (stTo_rows R w (show i + 1 ≤ w.size from hi))
  rw [← stTo_next]
  unfold stTo
  exact List.prefix_append_right_inj _ |>.2 (stAt_pre R w i hk)
/-- the first step of all -/
theorem first_at {R : List RulD} {w : ByteArray} {i k : Nat} (hi : i < w.size) (hk : k < R.length) (h0 : stTo R w i k = []) (h : preAt w i (nthR R k).1 = true) : (stepsF R w).head? = some (k, i) := by
  have h1 := stTo_pre (R := R) (w := w) hi (show k + 1 ≤ R.length from hk)
  rw [stTo_yes h, h0] at h1
  obtain ⟨t, ht⟩ := h1
  rw [← ht]
  rfl
theorem mem_stepsF {R : List RulD} {w : ByteArray} {s : Nat × Nat} : s ∈ stepsF R w ↔ s.2 < w.size ∧ s.1 < R.length ∧ preAt w s.2 (nthR R s.1).1 = true := by
  unfold stepsF stAt
  simp only [List.mem_flatMap, List.mem_range, List.mem_map, List.mem_filter]
  constructor
  · rintro ⟨i, hi, r, ⟨hr, hp⟩, rfl⟩
    exact ⟨hi, hr, hp⟩
  · rintro ⟨h1, h2, h3⟩
    exact ⟨s.2, h1, s.1, ⟨h2, h3⟩, rfl⟩
/-- a part of a word replaced -/
def replF (w : ByteArray) (i l : Nat) (by_ : ByteArray) : ByteArray := w.extract 0 i ++ by_ ++ w.extract (i + l) w.size
theorem replF_size {w by_ : ByteArray} {i l : Nat} (h : i + l ≤ w.size) : (replF w i l by_).size = w.size - l + by_.size := by
  unfold replF
  simp only [ByteArray.size_append, ByteArray.size_extract]
  omega
theorem extract_lt (v : ByteArray) (i j : Nat) : (v.extract i j).data.toList = (v.data.toList.take j).drop i := by
  rw [ByteArray.data_extract, Array.toList_extract, List.extract_eq_take_drop, List.drop_take]
theorem replF_list (w : ByteArray) (i l : Nat) (by_ : ByteArray) : (replF w i l by_).data.toList = w.data.toList.take i ++ (by_.data.toList ++ w.data.toList.drop (i + l)) := by
  unfold replF
  rw [ByteArray.data_append, ByteArray.data_append, Array.toList_append, Array.toList_append, extract_lt, extract_lt, List.drop_zero, List.append_assoc]
  have h : w.data.toList.length = w.size := rfl
  rw [List.take_of_length_le (Nat.le_of_eq h)]
/-- the word behind a step -/
def applyF (R : List RulD) (w : ByteArray) (s : Nat × Nat) : ByteArray := replF w s.2 (nthR R s.1).1.size (nthR R s.1).2
theorem split_at {w l : ByteArray} {i : Nat} (h : preAt w i l = true) : w.data.toList = w.data.toList.take i ++ (l.data.toList ++ w.data.toList.drop (i + l.size)) := by
  obtain ⟨t, ht⟩ := List.isPrefixOf_iff_prefix.1 h
  have h2 : l.data.toList.length = l.size := rfl
  have h3 : w.data.toList.drop (i + l.size) = t := by
    rw [← List.drop_drop, ← ht, ← h2, List.drop_left]
  rw [h3, ht, List.take_append_drop]
/-- what a word is that a system takes -/
structure WdP (w : ByteArray) : Prop where
  len : w.size ≤ 16
  let4 : LW w.data.toList
theorem wdP_of {k : Int} {w : ByteArray} (h : wordOkB k w = true) : WdP w := by
  unfold wordOkB allB at h
  simp only [Bool.and_eq_true, List.all_eq_true, decide_eq_true_eq] at h
  refine ⟨h.2.1, fun y hy => ?_⟩
  have h1 := inB_bounds h.1
  have h2 := letB_true (h.2.2 y hy)
  omega
theorem lw_of {k : Int} {w : ByteArray} (h : wordOkB k w = true) : LW w.data.toList := (wdP_of h).let4
/-- a step of an ordered system makes a word less -/
theorem step_less {k : Int} {R : List RulD} (hs : sysP k R) {w : ByteArray} {s : Nat × Nat} (hm : s ∈ stepsF R w) : rk (applyF R w s).data.toList < rk w.data.toList := by
  obtain ⟨h1, h2, h3⟩ := mem_stepsF.1 hm
  have hr := nthR_mem h2
  have hp := hs.1.2 _ hr
  have hl := hs.2 _ hr
  unfold applyF
  rw [replF_list]
  conv => rhs; rw [split_at h3]
  exact rk_swap (lw_of hp.1.1.1) (lw_of hp.1.1.2) hl
theorem step_size {k : Int} {R : List RulD} (hs : sysP k R) {w : ByteArray} {s : Nat × Nat} (hm : s ∈ stepsF R w) : (applyF R w s).size ≤ w.size ∧ s.2 + (nthR R s.1).1.size ≤ w.size := by
  obtain ⟨h1, h2, h3⟩ := mem_stepsF.1 hm
  have hr := nthR_mem h2
  have hp := hs.1.2 _ hr
  have hl := hs.2 _ hr
  have hf := preAt_fits h3 (by have := hp.2; omega)
  have hle : (nthR R s.1).2.size ≤ (nthR R s.1).1.size := by
    unfold lessS ltW at hl
    have e1 : (blW (nthR R s.1).1).length = (nthR R s.1).1.size := rfl
    have e2 : (blW (nthR R s.1).2).length = (nthR R s.1).2.size := rfl
    rcases of_decide_eq_true hl with h | ⟨h, _⟩ <;> omega
  refine ⟨?_, hf⟩
  unfold applyF
  rw [replF_size hf]
  omega
/-- letters of the first k -/
def okLt (k : Int) (v : List UInt8) : Prop := ∀ y ∈ v, letB k y = true
theorem wordOk_iff {k : Int} {w : ByteArray} : wordOkB k w = true ↔ (1 ≤ k ∧ k ≤ 4) ∧ w.size ≤ 16 ∧ okLt k w.data.toList := by
  unfold wordOkB allB okLt
  rw [Bool.and_eq_true, Bool.and_eq_true, List.all_eq_true, decide_eq_true_eq]
  have h : inB k 1 4 = true ↔ 1 ≤ k ∧ k ≤ 4 := by simp [inB]
  rw [h]
theorem step_word {k : Int} {R : List RulD} (hs : sysP k R) {w : ByteArray} (hw : wordOkB k w = true) {s : Nat × Nat} (hm : s ∈ stepsF R w) : wordOkB k (applyF R w s) = true := by
  obtain ⟨h1, h2, h3⟩ := mem_stepsF.1 hm
  have hp := hs.1.2 _ (nthR_mem h2)
  obtain ⟨a1, a2, a3⟩ := wordOk_iff.1 hw
  obtain ⟨b1, b2, b3⟩ := wordOk_iff.1 hp.1.1.2
  refine wordOk_iff.2 ⟨a1, Nat.le_trans (step_size hs hm).1 a2, fun y hy => ?_⟩
  unfold applyF at hy
  rw [replF_list] at hy
  rcases List.mem_append.1 hy with hy | hy
  · exact a3 y ((List.take_sublist _ _).subset hy)
  rcases List.mem_append.1 hy with hy | hy
  · exact b3 y hy
  · exact a3 y ((List.drop_sublist _ _).subset hy)
/-- x is what the first steps lead to from w -/
inductive NormIs (R : List RulD) : ByteArray → ByteArray → Prop
  | done {w : ByteArray} : (stepsF R w).head? = none → NormIs R w w
  | step {w x : ByteArray} {s : Nat × Nat} : (stepsF R w).head? = some s → NormIs R (applyF R w s) x → NormIs R w x
theorem NormIs.uniq {R : List RulD} {w x y : ByteArray} (a : NormIs R w x) (b : NormIs R w y) : x = y := by
  induction a with
  | done h =>
    cases b with
    | done => rfl
    | step h' _ => rw [h] at h'; cases h'
  | step h _ ih =>
    cases b with
    | done h' => rw [h] at h'; cases h'
    | step h' b' =>
      rw [h] at h'
      cases h'
      exact ih b'
theorem head_mem {l : List (Nat × Nat)} {s : Nat × Nat} (h : l.head? = some s) : s ∈ l := by
  cases l with
  | nil => cases h
  | cons a l => cases h; exact List.mem_cons_self
theorem NormIs.ex {k : Int} {R : List RulD} (hs : sysP k R) : ∀ (n : Nat) (w : ByteArray), rk w.data.toList < n → wordOkB k w = true → ∃ x, NormIs R w x ∧ wordOkB k x = true
  | 0, w, h, _ => by omega
  | n + 1, w, h, hw => by
    cases hh : (stepsF R w).head? with
    | none => exact ⟨w, .done hh, hw⟩
    | some s =>
      have hm := head_mem hh
      have h1 := step_less hs hm
      obtain ⟨x, hx, hx2⟩ := NormIs.ex hs n (applyF R w s) (by omega) (step_word hs hw hm)
      exact ⟨x, .step hh hx, hx2⟩
theorem NormIs.word {k : Int} {R : List RulD} (hs : sysP k R) {w x : ByteArray} (h : NormIs R w x) (hw : wordOkB k w = true) : wordOkB k x = true := by
  obtain ⟨y, h1, h2⟩ := NormIs.ex hs _ w (Nat.lt_succ_self _) hw
  rw [h.uniq h1]; exact h2
end Go.Proofs.YtoddpmdjjgnpgaaGreatDoor
namespace Go.Proofs.YtoddpmdjjgnpgaaGreatDoor
open Go.RowKit
set_option linter.unusedVariables false
/-- the places of a part among the first j ones -/
def placeTo (w l : ByteArray) (j : Nat) : List Nat := (List.range j).filter fun i => preAt w i l
def placesF (w l : ByteArray) : List Nat := placeTo w l w.size
theorem mem_places {w l : ByteArray} {i : Nat} : i ∈ placesF w l ↔ i < w.size ∧ preAt w i l = true := by
  unfold placesF placeTo
  rw [List.mem_filter, List.mem_range]
/-- the end of u of n letters is the beginning of v -/
def ovAt (u v : ByteArray) (n : Nat) : Bool := u.data.toList.drop (u.size - n) == v.data.toList.take n
/-- the overlaps of less than j letters -/
def overTo (u v : ByteArray) (j : Nat) : List Nat := (List.range j).filter fun n => decide (0 < n) && ovAt u v n
def overF (u v : ByteArray) : List Nat := overTo u v (min u.size v.size)
theorem mem_over {u v : ByteArray} {n : Nat} : n ∈ overF u v ↔ (n < u.size ∧ n < v.size) ∧ 0 < n ∧ ovAt u v n = true := by
  unfold overF overTo
  rw [List.mem_filter, List.mem_range, Bool.and_eq_true, decide_eq_true_eq]
  constructor
  · rintro ⟨h1, h2, h3⟩; exact ⟨by omega, h2, h3⟩
  · rintro ⟨h1, h2, h3⟩; exact ⟨by omega, h2, h3⟩
/-- a pair: its word, its rules, the place of the second one -/
abbrev PairD := ByteArray × Nat × Nat × Nat
/-- one rule inside of another one -/
def inP (R : List RulD) (i j p : Nat) : PairD := ((nthR R i).1, i, j, p)
def inF (R : List RulD) (i j : Nat) : List PairD := if i = j then [] else (placesF (nthR R i).1 (nthR R j).1).map (inP R i j)
/-- the end of one the beginning of another one -/
def acP (R : List RulD) (i j n : Nat) : PairD := ((nthR R i).1 ++ (nthR R j).1.extract n (nthR R j).1.size, i, j, (nthR R i).1.size - n)
def acF (R : List RulD) (i j : Nat) : List PairD := (overF (nthR R i).1 (nthR R j).1).map (acP R i j)
/-- the pairs of a rule with the first j ones -/
def pairAt (R : List RulD) (i j : Nat) : List PairD := (List.range j).flatMap fun b => inF R i b ++ acF R i b
def pairsF (R : List RulD) : List PairD := (List.range R.length).flatMap fun a => pairAt R a R.length
/-- both steps of a pair can be made -/
structure PairOk (R : List RulD) (k : Int) (p : PairD) : Prop where
  one : (p.2.1, 0) ∈ stepsF R p.1
  two : (p.2.2.1, p.2.2.2) ∈ stepsF R p.1
  word : wordOkB k p.1 = true
theorem nthR_dflt {R : List RulD} {r : Nat} (h : ¬ r < R.length) : nthR R r = (⟨#[]⟩, ⟨#[]⟩) := by
  unfold nthR; rw [List.getD_eq_getElem?_getD, List.getElem?_eq_none (by omega)]; rfl
theorem left8 {k : Int} {R : List RulD} (hs : sysP k R) (r : Nat) : (nthR R r).1.size ≤ 8 := by
  by_cases h : r < R.length
  · exact (hs.1.2 _ (nthR_mem h)).1.2.1
  · rw [nthR_dflt h]; exact Nat.zero_le _
theorem preAt_zero (w : ByteArray) : preAt w 0 w = true := by
  unfold preAt; rw [List.drop_zero, List.isPrefixOf_iff_prefix]; exact List.prefix_refl _
theorem pairOk {k : Int} {R : List RulD} (hs : sysP k R) {p : PairD} (hp : p ∈ pairsF R) : PairOk R k p := by
  unfold pairsF pairAt at hp
  simp only [List.mem_flatMap, List.mem_range] at hp
  obtain ⟨i, hi, j, hj, hp⟩ := hp
  have ri := hs.1.2 _ (nthR_mem hi)
  have rj := hs.1.2 _ (nthR_mem hj)
  have wi := ri.1.1.1
  have wj := rj.1.1.1
  have zi := ri.2
  have zj := rj.2
  rcases List.mem_append.1 hp with hp | hp
  · unfold inF at hp
    split at hp
    · cases hp
    · obtain ⟨q, hq, rfl⟩ := List.mem_map.1 hp
      obtain ⟨h1, h2⟩ := mem_places.1 hq
      exact ⟨mem_stepsF.2 ⟨by show 0 < (nthR R i).1.size; omega, hi, preAt_zero _⟩, mem_stepsF.2 ⟨h1, hj, h2⟩, wi⟩
  · obtain ⟨n, hn, rfl⟩ := List.mem_map.1 hp
    obtain ⟨⟨h1, h2⟩, h3, h4⟩ := mem_over.1 hn
    have e1 : ((nthR R i).1 ++ (nthR R j).1.extract n (nthR R j).1.size).data.toList = (nthR R i).1.data.toList ++ (nthR R j).1.data.toList.drop n := by
      rw [ByteArray.data_append, Array.toList_append, extract_lt]
      have h : (nthR R j).1.data.toList.length = (nthR R j).1.size := rfl
      rw [List.take_of_length_le (Nat.le_of_eq h)]
    have e2 : ((nthR R i).1 ++ (nthR R j).1.extract n (nthR R j).1.size).size = (nthR R i).1.size + ((nthR R j).1.size - n) := by
      rw [ByteArray.size_append, ByteArray.size_extract]; omega
    have hli : (nthR R i).1.data.toList.length = (nthR R i).1.size := rfl
    unfold ovAt at h4
    rw [beq_iff_eq] at h4
    refine ⟨mem_stepsF.2 ⟨?_, hi, ?_⟩, mem_stepsF.2 ⟨?_, hj, ?_⟩, ?_⟩
    · show 0 < _
      show 0 < ((nthR R i).1 ++ (nthR R j).1.extract n (nthR R j).1.size).size
      rw [e2]; omega
    · show preAt ((nthR R i).1 ++ (nthR R j).1.extract n (nthR R j).1.size) 0 (nthR R i).1 = true
      unfold preAt
      rw [List.drop_zero, e1, List.isPrefixOf_iff_prefix]
      exact List.prefix_append _ _
    · show (nthR R i).1.size - n < ((nthR R i).1 ++ (nthR R j).1.extract n (nthR R j).1.size).size
      rw [e2]; omega
    · show preAt ((nthR R i).1 ++ (nthR R j).1.extract n (nthR R j).1.size) ((nthR R i).1.size - n) (nthR R j).1 = true
      unfold preAt
      rw [e1, List.isPrefixOf_iff_prefix, List.drop_append_of_le_length (by omega), h4, List.take_append_drop]
      exact List.prefix_refl _
    · obtain ⟨a1, a2, a3⟩ := wordOk_iff.1 wi
      obtain ⟨_, _, b3⟩ := wordOk_iff.1 wj
      refine wordOk_iff.2 ⟨a1, ?_, ?_⟩
      · show ((nthR R i).1 ++ (nthR R j).1.extract n (nthR R j).1.size).size ≤ 16
        have := ri.1.2.1; have := rj.1.2.1
        rw [e2]; omega
      · show okLt k ((nthR R i).1 ++ (nthR R j).1.extract n (nthR R j).1.size).data.toList
        rw [e1]
        intro y hy
        rcases List.mem_append.1 hy with hy | hy
        · exact a3 y hy
        · exact b3 y ((List.drop_sublist _ _).subset hy)
def leftP (R : List RulD) (p : PairD) : ByteArray := applyF R p.1 (p.2.1, 0)
def rightP (R : List RulD) (p : PairD) : ByteArray := applyF R p.1 (p.2.2.1, p.2.2.2)
/-- both sides of a pair have one normal form -/
def Joined (R : List RulD) (p : PairD) : Prop := ∃ x, NormIs R (leftP R p) x ∧ NormIs R (rightP R p) x
open Classical in
/-- the open ones among pairs -/
noncomputable def openL (R : List RulD) (l : List PairD) : List PairD := l.filter fun p => !decide (Joined R p)
noncomputable def openF (R : List RulD) : List PairD := openL R (pairsF R)
end Go.Proofs.YtoddpmdjjgnpgaaGreatDoor
namespace Go.Proofs.YtoddpmdjjgnpgaaGreatDoor
open Go.RowKit
set_option linter.unusedVariables false
/-- the cells of a list of structs -/
def cellsL {α : Type} (f : α → List Value) (l : List α) : List Value := l.flatMap f
theorem cellsL_app {α : Type} (f : α → List Value) (l m : List α) : cellsL f (l ++ m) = cellsL f l ++ cellsL f m := by simp [cellsL]
theorem cellsL_one {α : Type} (f : α → List Value) (x : α) : cellsL f [x] = f x := by simp [cellsL]
theorem cellsL_len {α : Type} {f : α → List Value} {m : Nat} (hf : ∀ x, (f x).length = m) : ∀ l : List α, (cellsL f l).length = l.length * m
  | [] => by simp [cellsL]
  | x :: l => by
    have ih := cellsL_len hf l
    unfold cellsL at *
    rw [List.flatMap_cons, List.length_append, hf, ih, List.length_cons, Nat.succ_mul]
    omega
theorem cellsL_at {α : Type} {f : α → List Value} {m : Nat} (hf : ∀ x, (f x).length = m) : ∀ (l : List α) (j : Nat) (hj : j < l.length) (i : Nat), i < m → (cellsL f l)[j * m + i]? = (f l[j])[i]?
  | [], j, hj, _, _ => by simp at hj
  | x :: l, 0, _, i, hi => by
    unfold cellsL
    rw [List.flatMap_cons, List.getElem?_append_left (by rw [hf]; omega)]
    simp
  | x :: l, j + 1, hj, i, hi => by
    have ih := cellsL_at hf l j (by simpa using hj) i hi
    unfold cellsL at *
    rw [List.flatMap_cons, List.getElem?_append_right (by rw [hf, Nat.succ_mul]; omega), hf]
    rw [show (j + 1) * m + i - m = j * m + i by rw [Nat.succ_mul]; omega, ih]
    rfl
/-- a row of structs -/
def RowsIn {α : Type} (f : α → List Value) (w : World) (a : Option Addr) (l : List α) : Prop := CellsIn w a (cellsL f l)
theorem RowsIn.later {α : Type} {f : α → List Value} {w w' : World} {a : Option Addr} {l : List α} (h : RowsIn f w a l) (hb : Below w.heap.size w w') : RowsIn f w' a l := CellsIn.later h hb
theorem owns_rows {α : Type} {f : α → List Value} {w : World} {base : Nat} {T : TypeId} {size : Nat} {a : Option Addr} {n m cap : Nat} {l : List α} (h : w.ownsRow base T size (.slice a m cap) n (cellsL f l)) : RowsIn f w a l := owns_cells h
theorem RowsIn.cell {α : Type} {f : α → List Value} {m : Nat} (hf : ∀ x, (f x).length = m) (hm : 0 < m) {w : World} {a : Option Addr} {l : List α} (h : RowsIn f w a l) {i : Nat} (hi : i < l.length) :
    ∃ b off, a = some ⟨b, off, none⟩ ∧ b < w.heap.size ∧ ∀ j (hj : j < l.length) c v, (f l[j])[c]? = some v → w.cell? ⟨b, off + j * m + c, none⟩ = some v := by
  have hlen := cellsL_len hf l
  rcases h with h | ⟨b, off, ha, hc⟩
  · rw [h, List.length_nil] at hlen
    have : l.length * m ≠ 0 := Nat.mul_ne_zero (by omega) (by omega)
    omega
  · have key : ∀ j (hj : j < l.length) c v, (f l[j])[c]? = some v → w.cell? ⟨b, off + j * m + c, none⟩ = some v := fun j hj c v hv => by
      have hcm : c < m := by rw [← hf l[j]]; exact (List.getElem?_eq_some_iff.1 hv).1
      have h1 := cellsL_at hf l j hj c hcm
      rw [hv] at h1
      obtain ⟨h2, h3⟩ := List.getElem?_eq_some_iff.1 h1
      have h4 := hc (j * m + c) h2
      rw [h3] at h4
      rw [Nat.add_assoc]
      exact h4
    refine ⟨b, off, ha, ?_, key⟩
    have h0 : 0 < (f l[i]).length := by rw [hf]; exact hm
    exact World.block_lt_of_cell? w _ (key i hi 0 (f l[i])[0] (List.getElem?_eq_getElem h0))
/-- the cells of a step -/
def stV (s : Nat × Nat) : List Value := [.int .i64 (s.1 : Nat), .int .i64 (s.2 : Nat)]
theorem stV_len (s : Nat × Nat) : (stV s).length = 2 := rfl
end Go.Proofs.YtoddpmdjjgnpgaaGreatDoor
namespace Go.Proofs.YtoddpmdjjgnpgaaGreatDoor
open Go.RowKit
set_option linter.unusedVariables false
theorem preAt_hp {w0 l : ByteArray} {i : Nat} : Lib.hasPrefix (w0.extract i w0.size).data.toList l.data.toList = preAt w0 i l := by
  unfold Lib.hasPrefix preAt
  rw [extract_lt]
  have h : w0.data.toList.length = w0.size := rfl
  rw [List.take_of_length_le (Nat.le_of_eq h)]
end Go.Proofs.YtoddpmdjjgnpgaaGreatDoor
namespace Go.Proofs.YtoddpmdjjgnpgaaGreatDoor
open Go.RowKit
set_option linter.unusedVariables false
/-- the cells of a rule -/
theorem rule_at {w W : World} {a : Option Addr} {R : List RulD} (h : RulesIn w a R) (hb : Below w.heap.size w W) {r : Nat} (hr : r < R.length) : ∃ b off, a = some ⟨b, off, none⟩ ∧ b < w.heap.size ∧ W.cell? ⟨b, off + r * 2, none⟩ = some (.string (nthR R r).1) ∧ W.cell? ⟨b, off + r * 2 + 1, none⟩ = some (.string (nthR R r).2) := by
  obtain ⟨b, off, e, hlt, hc⟩ := h.cell hr
  obtain ⟨h1, h2⟩ := hc r hr
  exact ⟨b, off, e, hlt, by rw [hb.cell (World.block_lt_of_cell? w _ h1)]; exact h1, by rw [hb.cell (World.block_lt_of_cell? w _ h2)]; exact h2⟩
theorem box_two {W : World} {T : TypeId} {u v : Value} {W2 : World} (hb : Below (W.alloc (.cells #[u, v] T)).heap.size (W.alloc (.cells #[u, v] T)) W2) : W2.cell? ⟨W.heap.size, 0, none⟩ = some u ∧ W2.cell? ⟨W.heap.size, 1, none⟩ = some v :=
  sys_cells ((hb.block W.heap.size (by simp)).trans (alloc_at W _))
end Go.Proofs.YtoddpmdjjgnpgaaGreatDoor
namespace Go.Proofs.YtoddpmdjjgnpgaaGreatDoor
open Go.RowKit
set_option linter.unusedVariables false
/-- what FirstStep hands back -/
def RetFS (R : List RulD) (w0 : ByteArray) (w : World) (e : Ending) (w' : World) : Prop :=
  Below w.heap.size w w' ∧ ((∃ s, (stepsF R w0).head? = some s ∧ e = .returned (.tuple #[.agg #[.int .i64 (s.1 : Nat), .int .i64 (s.2 : Nat)], .bool true])) ∨ ((stepsF R w0).head? = none ∧ e = .returned (.tuple #[.agg #[.int .i64 0, .int .i64 0], .bool false])))
theorem box_facts {W : World} {T : TypeId} {u v : Value} {W2 : World} (hb : Below (W.alloc (.cells #[u, v] T)).heap.size (W.alloc (.cells #[u, v] T)) W2) : (W2.cell? ⟨W.heap.size, 0, none⟩ = some u ∧ W2.cell? ⟨W.heap.size, 1, none⟩ = some v) ∧ W2.frozen? ⟨W.heap.size, 0, none⟩ = false ∧ W2.frozen? ⟨W.heap.size, 1, none⟩ = false := by
  have h := (hb.block W.heap.size (by simp)).trans (alloc_at W _)
  refine ⟨sys_cells h, ?_, ?_⟩ <;> simp [World.frozen?, h]
end Go.Proofs.YtoddpmdjjgnpgaaGreatDoor
namespace Go.Proofs.YtoddpmdjjgnpgaaGreatDoor
open Go.RowKit
set_option linter.unusedVariables false
end Go.Proofs.YtoddpmdjjgnpgaaGreatDoor
namespace Go.Proofs.YtoddpmdjjgnpgaaGreatDoor
open Go.RowKit
set_option linter.unusedVariables false
end Go.Proofs.YtoddpmdjjgnpgaaGreatDoor
namespace Go.Proofs.YtoddpmdjjgnpgaaGreatDoor
open Go.RowKit
set_option linter.unusedVariables false
theorem stTo_none {R : List RulD} {w : ByteArray} {i k : Nat} (h0 : stTo R w i k = []) (h : preAt w i (nthR R k).1 = false) : stTo R w i (k + 1) = [] := by rw [stTo_no h, h0]
set_option maxRecDepth 100000 in
set_option maxHeartbeats 2000000 in
theorem implFirstStep_any (k : Int) (R : List RulD) (a : Option Addr) (cap : Nat) (w0 : ByteArray) (w : World) (hl : RulesIn w a R) (hs : sysP k R) (hw : w0.size ≤ 16) :
    Calls Tryz.prog 49 #[.agg #[.int .i64 k, .slice a R.length cap], .string w0] w (RetFS R w0 w) := by
  have h12 : R.length ≤ 12 := hs.1.1.2
  have h8 := left8 hs
  have HL := Lib.hid hl
  have HA2 := Lib.hid (fun o o2 => Below.now (alloc_belowS w o) (alloc_belowS (w.alloc o) o2))
  have e1 : (w.alloc (.cells #[.int .i64 k, .slice a R.length cap] 25)).heap.size = w.heap.size + 1 := by simp
  have HBX := Lib.hid (fun W2 (h : Below ((w.alloc (.cells #[.int .i64 k, .slice a R.length cap] 25)).alloc (.cells #[.int .i64 0, .int .i64 0] 92)).heap.size ((w.alloc (.cells #[.int .i64 k, .slice a R.length cap] 25)).alloc (.cells #[.int .i64 0, .int .i64 0] 92)) W2) => And.intro (box_two (Below.now (alloc_belowS (w.alloc (.cells #[.int .i64 k, .slice a R.length cap] 25)) _) h)) (box_facts h))
  rw [e1] at HBX
  have HW1 : Hid (Below w.heap.size w ((w.alloc (.cells #[.int .i64 k, .slice a R.length cap] 25)).alloc (.cells #[.int .i64 0, .int .i64 0] 92))) := Lib.hid (HA2.out _ _)
  have HL1 := Lib.hid (HL.out.later HW1.out)
  clear hl hs e1
  go_enter Tryz.func49, Tryz.ntmps49
  go_wp2_with fail
  generalize (w.alloc (.cells #[.int .i64 k, .slice a R.length cap] 25)).alloc (.cells #[.int .i64 0, .int .i64 0] 92) = w1 at *
  go_loopw [11] (fun vi wr => ∃ i : Nat, i ≤ w0.size ∧ vi = .int .i64 (i : Nat) ∧ Hid (stTo R w0 i 0 = []) ∧ Below w1.heap.size w1 wr) (fun vi _ => w0.size - (intOf vi).toNat)
  case atStart => exact ⟨0, Nat.zero_le _, rfl, Lib.hid rfl, Below.refl _ _⟩
  case round =>
    obtain ⟨i, hi, rfl, HNO, hbw⟩ := hrel
    have HB := Lib.hid hbw
    obtain ⟨⟨s0, s1⟩, ⟨b0, b1⟩, f0, f1⟩ := HBX.out wr hbw
    clear hbw
    by_cases hlt : i < w0.size
    · have HXT := Lib.hid (stTo_next R w0 i)
      go_wp2_with fail
      generalize hW : wr = wr0 at *
      clear hW s0 s1 b0 b1 f0 f1
      go_loopw [17] (fun vr wr => ∃ r : Nat, r ≤ R.length ∧ vr = .int .i64 (r : Nat) ∧ Hid (stTo R w0 i r = []) ∧ Below w1.heap.size w1 wr) (fun vr _ => R.length - (intOf vr).toNat)
      case atStart => exact ⟨0, Nat.zero_le _, rfl, HNO, HB.out⟩
      case round =>
        clear HB HNO
        obtain ⟨r, hr, rfl, HNO, hbw⟩ := hrel
        by_cases hlr : r < R.length
        · obtain ⟨b, off, rfl, hb, k0, k1⟩ := rule_at HL1.out hbw hlr
          have hl8 := h8 r
          have HY := Lib.hid (fun h => first_at (R := R) (w := w0) (i := i) (k := r) hlt hlr HNO.out h)
          have HN := Lib.hid (fun h => stTo_none (R := R) (w := w0) (i := i) (k := r) HNO.out h)
          have HHP := Lib.hid (fun W => Tryz.strings_HasPrefix (w0.extract i w0.size) (nthR R r).1 W)
          rw [preAt_hp] at HHP
          have x3 : (i : Int) ≤ (w0.size : Int) := by omega
          have x4 : i ≤ w0.size := by omega
          have HB := Lib.hid hbw
          clear hbw
          generalize (nthR R r).1 = l at *
          generalize (nthR R r).2 = q at *
          go_wp2_with fail
          have HB5 := Lib.hid (Below.now HB.out (alloc_belowS wr (.cells #[.string l, .string q] 120)))
          have hcb := alloc_at wr (.cells #[.string l, .string q] 120)
          have hc0 := (sys_cells hcb).1
          clear k0 k1 hcb
          generalize hg : wr.heap.size = g at *
          generalize wr.alloc (.cells #[.string l, .string q] 120) = w5 at *
          cases hp : preAt w0 i l
          · have HNX := Lib.hid (HN.out hp)
            rw [hp] at HHP
            clear hp HY HN
            go_quiet ((go_at_call 97; refine (HHP.out _).mono ?_; rintro e w' ⟨rfl, rfl⟩; exact ⟨rfl, ⟨_, rfl⟩⟩))
            have HB6 := Lib.hid (Below.now HB5.out (below_drewN (Below.refl _ _) nq))
            go_wp2_with fail
            go_roundw
            case rel => exact ⟨r + 1, by omega, by go_num, HNX, HB6.out⟩
            case measure => simp [intOf]; omega
          · have HYX := Lib.hid (HY.out hp)
            rw [hp] at HHP
            clear hp HY HN
            go_quiet ((go_at_call 97; refine (HHP.out _).mono ?_; rintro e w' ⟨rfl, rfl⟩; exact ⟨rfl, ⟨_, rfl⟩⟩))
            have HB6 := Lib.hid (Below.now HB5.out (below_drewN (Below.refl _ _) nq))
            obtain ⟨_, ⟨b0, b1⟩, f0, f1⟩ := HBX.out _ HB6.out
            have HW6 := Lib.hid (Below.now HW1.out HB6.out)
            clear hc0
            go_wp2_with fail
            refine bodyPost_ret (v := .tuple #[.agg #[.int .i64 (r : Nat), .int .i64 (i : Nat)], .bool true]) ?_ rfl ?_
            · simp [results, Tryz.results49, go_sem, b0, b1]
            · exact ⟨(HW6.out.setCell (show w.heap.size ≤ w.heap.size + 1 by omega) _).setCell (show w.heap.size ≤ w.heap.size + 1 by omega) _, .inl ⟨(r, i), HYX.out, rfl⟩⟩
        · obtain rfl : r = R.length := by omega
          have HN2 : Hid (stTo R w0 (i + 1) 0 = []) := Lib.hid (by rw [← HXT.out]; exact HNO.out)
          go_wp2_with fail
          go_roundw
          case rel => exact ⟨i + 1, by omega, by go_num, HN2, hbw⟩
          case measure => simp [intOf]; omega
    · obtain rfl : i = w0.size := by omega
      have HHD : Hid ((stepsF R w0).head? = none) := Lib.hid (by rw [← stTo_done, HNO.out]; rfl)
      have HW6 := Lib.hid (Below.now HW1.out HB.out)
      go_wp2_with fail
      refine bodyPost_ret (v := .tuple #[.agg #[.int .i64 0, .int .i64 0], .bool false]) ?_ rfl ?_
      · simp [results, Tryz.results49, go_sem, b0, b1]
      · exact ⟨(HW6.out.setCell (show w.heap.size ≤ w.heap.size + 1 by omega) _).setCell (show w.heap.size ≤ w.heap.size + 1 by omega) _, .inr ⟨HHD.out, rfl⟩⟩
end Go.Proofs.YtoddpmdjjgnpgaaGreatDoor
namespace Go.Proofs.YtoddpmdjjgnpgaaGreatDoor
open Go.RowKit
set_option linter.unusedVariables false
/-- a box of a step -/
def BoxS (g x y : Nat) (W : World) : Prop := W.heap[g]? = some (.cells #[.int .i64 (x : Nat), .int .i64 (y : Nat)] 92 (0, 0))
theorem BoxS.facts {g x y : Nat} {W : World} (h : BoxS g x y W) : (W.cell? ⟨g, 0, none⟩ = some (.int .i64 (x : Nat)) ∧ W.cell? ⟨g, 1, none⟩ = some (.int .i64 (y : Nat))) ∧ W.frozen? ⟨g, 0, none⟩ = false ∧ W.frozen? ⟨g, 1, none⟩ = false := by
  unfold BoxS at h
  refine ⟨sys_cells h, ?_, ?_⟩ <;> simp [World.frozen?, h]
theorem BoxS.set {g x y : Nat} {W : World} (h : BoxS g x y W) (x2 y2 : Nat) : BoxS g x2 y2 ((W.setCell ⟨g, 0, none⟩ (.int .i64 (x2 : Nat))).setCell ⟨g, 1, none⟩ (.int .i64 (y2 : Nat))) := by
  unfold BoxS at *
  unfold World.setCell
  simp [Array.getElem?_modify, h]
theorem BoxS.later {g x y : Nat} {W W' : World} (h : BoxS g x y W) (hb : Below W.heap.size W W') : BoxS g x y W' := (hb.block g (Array.getElem?_eq_some_iff.1 h).1).trans h
/-- what is known of the first step -/
def FsP (R : List RulD) (v : ByteArray) (x y : Nat) (b : Bool) : Prop := (b = true ∧ (stepsF R v).head? = some (x, y)) ∨ (b = false ∧ (stepsF R v).head? = none ∧ x = 0 ∧ y = 0)
theorem RetFS.form {R : List RulD} {v : ByteArray} {w : World} {e : Ending} {w' : World} (h : RetFS R v w e w') : ∃ x y b, FsP R v x y b ∧ e = .returned (.tuple #[.agg #[.int .i64 (x : Nat), .int .i64 (y : Nat)], .bool b]) ∧ Below w.heap.size w w' := by
  obtain ⟨hb, ⟨s, hs, rfl⟩ | ⟨hs, rfl⟩⟩ := h
  · exact ⟨s.1, s.2, true, .inl ⟨rfl, hs⟩, rfl, hb⟩
  · exact ⟨0, 0, false, .inr ⟨rfl, hs, rfl, rfl⟩, rfl, hb⟩
set_option maxHeartbeats 1000000 in
theorem implTakes_any (k : Int) (R : List RulD) (a : Option Addr) (cap : Nat) (w0 : ByteArray) (w : World) (hl : RulesIn w a R) (hlen : R.length ≤ 2 ^ 40) (hz : SzR R) (hw : w0.size ≤ maxLen) :
    Calls Tryz.prog 48 #[.agg #[.int .i64 k, .slice a R.length cap], .string w0] w (RetP (sysP k R ∧ wordOkB k w0 = true) w) := by
  have HL := Lib.hid hl
  have HSO := Lib.hid (fun W h => implSystemOk_any k R a cap W h hlen hz)
  have HWO := Lib.hid (fun W => implWordOk_any k w0 W hw)
  have HBX := Lib.hid (fun W2 (h : Below (w.alloc (.cells #[.int .i64 k, .slice a R.length cap] 25)).heap.size (w.alloc (.cells #[.int .i64 k, .slice a R.length cap] 25)) W2) => box_two h)
  have HA := Lib.hid (fun o => alloc_belowS w o)
  clear hl hz
  go_enter Tryz.func48, Tryz.ntmps48
  go_wp2_with fail
  refine (HSO.out _ (HL.out.later (HA.out _))).mono ?_
  rintro e w1 ⟨bb, hbb, rfl, hb1⟩
  obtain ⟨s0, s1⟩ := HBX.out _ hb1
  have HBB := Lib.hid hbb
  have HW1 := Lib.hid (Below.now (HA.out _) hb1)
  clear hbb hb1
  cases bb
  · have F : Hid (RetP (sysP k R ∧ wordOkB k w0 = true) w (.returned (.bool false)) w1) := Lib.hid (RetP.no (fun h => by have := HBB.out.2 h.1; cases this) HW1.out)
    go_wp2_with fail
    go_ret
    exact F.out
  · have F : Hid (RetP (sysP k R ∧ wordOkB k w0 = true) w (.returned (.bool (wordOkB k w0))) w1) := Lib.hid ⟨_, ⟨fun h => ⟨HBB.out.1 rfl, h⟩, fun h => h.2⟩, rfl, HW1.out⟩
    generalize wordOkB k w0 = ok at *
    go_wp2_with fail
    refine (HWO.out _).mono ?_
    rintro e w2 ⟨rfl, rfl⟩
    go_wp2_with fail
    go_ret
    exact F.out
end Go.Proofs.YtoddpmdjjgnpgaaGreatDoor
namespace Go.Proofs.YtoddpmdjjgnpgaaGreatDoor
open Go.RowKit
set_option linter.unusedVariables false
/-- rules that make a word less -/
def sysW (k : Int) (R : List RulD) : Prop := ((1 ≤ k ∧ k ≤ 4) ∧ ∀ r ∈ R, ruleP k r) ∧ ∀ r ∈ R, lessS r.2 r.1 = true
theorem sysP.weak {k : Int} {R : List RulD} (h : sysP k R) : sysW k R := ⟨⟨h.1.1.1, h.1.2⟩, h.2⟩
/-- a step of an ordered system makes a word less -/
theorem step_lessW {k : Int} {R : List RulD} (hs : sysW k R) {w : ByteArray} {s : Nat × Nat} (hm : s ∈ stepsF R w) : rk (applyF R w s).data.toList < rk w.data.toList := by
  obtain ⟨h1, h2, h3⟩ := mem_stepsF.1 hm
  have hr := nthR_mem h2
  have hp := hs.1.2 _ hr
  have hl := hs.2 _ hr
  unfold applyF
  rw [replF_list]
  conv => rhs; rw [split_at h3]
  exact rk_swap (lw_of hp.1.1.1) (lw_of hp.1.1.2) hl
theorem step_sizeW {k : Int} {R : List RulD} (hs : sysW k R) {w : ByteArray} {s : Nat × Nat} (hm : s ∈ stepsF R w) : (applyF R w s).size ≤ w.size ∧ s.2 + (nthR R s.1).1.size ≤ w.size := by
  obtain ⟨h1, h2, h3⟩ := mem_stepsF.1 hm
  have hr := nthR_mem h2
  have hp := hs.1.2 _ hr
  have hl := hs.2 _ hr
  have hf := preAt_fits h3 (by have := hp.2; omega)
  have hle : (nthR R s.1).2.size ≤ (nthR R s.1).1.size := by
    unfold lessS ltW at hl
    have e1 : (blW (nthR R s.1).1).length = (nthR R s.1).1.size := rfl
    have e2 : (blW (nthR R s.1).2).length = (nthR R s.1).2.size := rfl
    rcases of_decide_eq_true hl with h | ⟨h, _⟩ <;> omega
  refine ⟨?_, hf⟩
  unfold applyF
  rw [replF_size hf]
  omega
theorem step_wordW {k : Int} {R : List RulD} (hs : sysW k R) {w : ByteArray} (hw : wordOkB k w = true) {s : Nat × Nat} (hm : s ∈ stepsF R w) : wordOkB k (applyF R w s) = true := by
  obtain ⟨h1, h2, h3⟩ := mem_stepsF.1 hm
  have hp := hs.1.2 _ (nthR_mem h2)
  obtain ⟨a1, a2, a3⟩ := wordOk_iff.1 hw
  obtain ⟨b1, b2, b3⟩ := wordOk_iff.1 hp.1.1.2
  refine wordOk_iff.2 ⟨a1, Nat.le_trans (step_sizeW hs hm).1 a2, fun y hy => ?_⟩
  unfold applyF at hy
  rw [replF_list] at hy
  rcases List.mem_append.1 hy with hy | hy
  · exact a3 y ((List.take_sublist _ _).subset hy)
  rcases List.mem_append.1 hy with hy | hy
  · exact b3 y hy
  · exact a3 y ((List.drop_sublist _ _).subset hy)
theorem NormIs.exW {k : Int} {R : List RulD} (hs : sysW k R) : ∀ (n : Nat) (w : ByteArray), rk w.data.toList < n → wordOkB k w = true → ∃ x, NormIs R w x ∧ wordOkB k x = true
  | 0, w, h, _ => by omega
  | n + 1, w, h, hw => by
    cases hh : (stepsF R w).head? with
    | none => exact ⟨w, .done hh, hw⟩
    | some s =>
      have hm := head_mem hh
      have h1 := step_lessW hs hm
      obtain ⟨x, hx, hx2⟩ := NormIs.exW hs n (applyF R w s) (by omega) (step_wordW hs hw hm)
      exact ⟨x, .step hh hx, hx2⟩
theorem NormIs.wordW {k : Int} {R : List RulD} (hs : sysW k R) {w x : ByteArray} (h : NormIs R w x) (hw : wordOkB k w = true) : wordOkB k x = true := by
  obtain ⟨y, h1, h2⟩ := NormIs.exW hs _ w (Nat.lt_succ_self _) hw
  rw [h.uniq h1]; exact h2
end Go.Proofs.YtoddpmdjjgnpgaaGreatDoor
