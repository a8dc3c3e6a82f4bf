/-
  Letters: the text of one byte.
-/
import Derived.Test.YtklbehapbchnaaaDoorPrl04
import Derived.Test.YtklbehapbchnaaaDoorPrl03
import Derived.Test.YtklbehapbchnaaaDoorPrl01
import Derived.Laws.BytesArg
namespace Go.Proofs.YtklbehapbchnaaaDoor
open Go.RowKit
set_option linter.unusedVariables false
/-- the letters a .. d alone -/
def LW (v : List UInt8) : Prop := ∀ y ∈ v, 97 ≤ y.toNat ∧ y.toNat ≤ 100
theorem LW.app {u v : List UInt8} (hu : LW u) (hv : LW v) : LW (u ++ v) := fun y hy => by
  rcases List.mem_append.1 hy with h | h
  · exact hu y h
  · exact hv y h
theorem LW.sub {u v : List UInt8} (h : LW v) (hs : u.Sublist v) : LW u := fun y hy => h y (hs.subset hy)
/-- the number of a word: its letters as the digits 1 to 4 in base 5 -/
def rkL : List UInt8 → Nat → Nat
  | [], a => a
  | y :: v, a => rkL v (a * 5 + (y.toNat - 96))
def rk (v : List UInt8) : Nat := rkL v 0
theorem rkL_add : ∀ (v : List UInt8) (a : Nat), rkL v a = a * 5 ^ v.length + rk v
  | [], a => by simp [rkL, rk]
  | y :: v, a => by
    unfold rk
    simp only [rkL]
    rw [rkL_add v, rkL_add v (0 * 5 + _)]
    rw [List.length_cons, Nat.pow_succ, Nat.add_mul, Nat.zero_mul, Nat.zero_add, Nat.mul_comm (5 ^ v.length) 5, ← Nat.mul_assoc]
    omega
theorem rk_app (u v : List UInt8) : rk (u ++ v) = rk u * 5 ^ v.length + rk v := by
  have h : ∀ (u : List UInt8) (a : Nat), rkL (u ++ v) a = rkL v (rkL u a) := fun u => by
    induction u with
    | nil => intro a; rfl
    | cons y u ih => intro a; exact ih _
  unfold rk
  rw [h, rkL_add]
  rfl
theorem rk_cons (y : UInt8) (v : List UInt8) : rk (y :: v) = (y.toNat - 96) * 5 ^ v.length + rk v := by
  have h := rk_app [y] v
  have e : rk [y] = y.toNat - 96 := by simp [rk, rkL]
  rw [e] at h
  exact h
theorem rk_lt : ∀ {v : List UInt8}, LW v → rk v < 5 ^ v.length
  | [], _ => by simp [rk, rkL]
  | y :: v, h => by
    have ih := rk_lt (v := v) (fun z hz => h z (List.mem_cons_of_mem _ hz))
    have h1 := h y List.mem_cons_self
    rw [rk_cons, List.length_cons, Nat.pow_succ]
    have h2 : (y.toNat - 96) * 5 ^ v.length ≤ 4 * 5 ^ v.length := Nat.mul_le_mul_right _ (by omega)
    omega
theorem rk_ge {y : UInt8} {v : List UInt8} (h : LW (y :: v)) : 5 ^ v.length ≤ rk (y :: v) := by
  have h1 := h y List.mem_cons_self
  rw [rk_cons]
  have h2 : 1 * 5 ^ v.length ≤ (y.toNat - 96) * 5 ^ v.length := Nat.mul_le_mul_right _ (by omega)
  omega
theorem rk_lex : ∀ {u v : List UInt8}, LW u → LW v → u.length = v.length → u < v → rk u < rk v
  | [], [], _, _, _, h => absurd h (List.lt_irrefl _)
  | [], _ :: _, _, _, h, _ => by simp at h
  | _ :: _, [], _, _, h, _ => by simp at h
  | a :: u, b :: v, hu, hv, hl, h => by
    have hl2 : u.length = v.length := by simpa using hl
    have hu2 : LW u := fun z hz => hu z (List.mem_cons_of_mem _ hz)
    have hv2 : LW v := fun z hz => hv z (List.mem_cons_of_mem _ hz)
    have ha := hu a List.mem_cons_self
    have hb := hv b List.mem_cons_self
    rw [rk_cons, rk_cons, hl2]
    rcases List.cons_lt_cons_iff.1 h with h1 | ⟨rfl, h1⟩
    · have h2 := UInt8.lt_iff_toNat_lt.1 h1
      have h3 := rk_lt hu2
      rw [hl2] at h3
      have h4 : (a.toNat - 96 + 1) * 5 ^ v.length ≤ (b.toNat - 96) * 5 ^ v.length := Nat.mul_le_mul_right _ (by omega)
      rw [Nat.add_mul] at h4
      omega
    · have := rk_lex hu2 hv2 hl2 h1
      omega
theorem rk_less {u v : List UInt8} (hu : LW u) (hv : LW v) (h : ltW u v = true) : rk u < rk v := by
  unfold ltW at h
  rcases of_decide_eq_true h with h | ⟨h1, h2⟩
  · cases v with
    | nil => simp at h
    | cons y v =>
      have h1 := rk_lt hu
      have h2 := rk_ge hv
      have h3 : 5 ^ u.length ≤ 5 ^ v.length := Nat.pow_le_pow_right (by omega) (by simp at h; omega)
      omega
  · exact rk_lex hu hv h1 h2
theorem rk_swap {u x y v : List UInt8} (hx : LW x) (hy : LW y) (h : ltW y x = true) : rk (u ++ (y ++ v)) < rk (u ++ (x ++ v)) := by
  have hlen : y.length ≤ x.length := by
    unfold ltW at h
    rcases of_decide_eq_true h with h | ⟨h, _⟩ <;> omega
  have h1 := rk_less hy hx h
  rw [rk_app u (y ++ v), rk_app u (x ++ v), rk_app y v, rk_app x v, List.length_append, List.length_append, Nat.pow_add, Nat.pow_add]
  have h2 : 5 ^ y.length ≤ 5 ^ x.length := Nat.pow_le_pow_right (by omega) hlen
  have h3 : rk u * (5 ^ y.length * 5 ^ v.length) ≤ rk u * (5 ^ x.length * 5 ^ v.length) := Nat.mul_le_mul_left _ (Nat.mul_le_mul_right _ h2)
  have h4 : (rk y + 1) * 5 ^ v.length ≤ rk x * 5 ^ v.length := Nat.mul_le_mul_right _ h1
  have h5 : 1 ≤ 5 ^ v.length := Nat.one_le_pow _ _ (by omega)
  rw [Nat.add_mul, Nat.one_mul] at h4
  omega
/-- l lies in w at the place i -/
def preAt (w : ByteArray) (i : Nat) (l : ByteArray) : Bool := l.data.toList.isPrefixOf (w.data.toList.drop i)
theorem preAt_fits {w l : ByteArray} {i : Nat} (h : preAt w i l = true) (hl : 0 < l.size) : i + l.size ≤ w.size := by
  have h1 := (List.isPrefixOf_iff_prefix.1 h).length_le
  have h2 : l.data.toList.length = l.size := rfl
  have h3 : w.data.toList.length = w.size := rfl
  rw [List.length_drop] at h1
  omega
/-- the steps with a rule at a place (the first k rules) -/
def stAt (R : List RulD) (w : ByteArray) (i k : Nat) : List (Nat × Nat) := ((List.range k).filter fun r => preAt w i (nthR R r).1).map fun r => (r, i)
/-- all steps, by place and then by rule -/
def stepsF (R : List RulD) (w : ByteArray) : List (Nat × Nat) := (List.range w.size).flatMap fun j => stAt R w j R.length
theorem mem_stepsF {R : List RulD} {w : ByteArray} {s : Nat × Nat} : s ∈ stepsF R w ↔ s.2 < w.size ∧ s.1 < R.length ∧ preAt w s.2 (nthR R s.1).1 = true := by
  unfold stepsF stAt
  simp only [List.mem_flatMap, List.mem_range, List.mem_map, List.mem_filter]
  constructor
  · rintro ⟨i, hi, r, ⟨hr, hp⟩, rfl⟩
    exact ⟨hi, hr, hp⟩
  · rintro ⟨h1, h2, h3⟩
    exact ⟨s.2, h1, s.1, ⟨h2, h3⟩, rfl⟩
/-- a part of a word replaced -/
def replF (w : ByteArray) (i l : Nat) (by_ : ByteArray) : ByteArray := w.extract 0 i ++ by_ ++ w.extract (i + l) w.size
theorem replF_size {w by_ : ByteArray} {i l : Nat} (h : i + l ≤ w.size) : (replF w i l by_).size = w.size - l + by_.size := by
  unfold replF
  simp only [ByteArray.size_append, ByteArray.size_extract]
  omega
theorem extract_lt (v : ByteArray) (i j : Nat) : (v.extract i j).data.toList = (v.data.toList.take j).drop i := by
  rw [ByteArray.data_extract, Array.toList_extract, List.extract_eq_take_drop, List.drop_take]
theorem replF_list (w : ByteArray) (i l : Nat) (by_ : ByteArray) : (replF w i l by_).data.toList = w.data.toList.take i ++ (by_.data.toList ++ w.data.toList.drop (i + l)) := by
  unfold replF
  rw [ByteArray.data_append, ByteArray.data_append, Array.toList_append, Array.toList_append, extract_lt, extract_lt, List.drop_zero, List.append_assoc]
  have h : w.data.toList.length = w.size := rfl
  rw [List.take_of_length_le (Nat.le_of_eq h)]
/-- the word behind a step -/
def applyF (R : List RulD) (w : ByteArray) (s : Nat × Nat) : ByteArray := replF w s.2 (nthR R s.1).1.size (nthR R s.1).2
theorem split_at {w l : ByteArray} {i : Nat} (h : preAt w i l = true) : w.data.toList = w.data.toList.take i ++ (l.data.toList ++ w.data.toList.drop (i + l.size)) := by
  obtain ⟨t, ht⟩ := List.isPrefixOf_iff_prefix.1 h
  have h2 : l.data.toList.length = l.size := rfl
  have h3 : w.data.toList.drop (i + l.size) = t := by
    rw [← List.drop_drop, ← ht, ← h2, List.drop_left]
  rw [h3, ht, List.take_append_drop]
/-- what a word is that a system takes -/
structure WdP (w : ByteArray) : Prop where
  len : w.size ≤ 16
  let4 : LW w.data.toList
theorem wdP_of {k : Int} {w : ByteArray} (h : wordOkB k w = true) : WdP w := by
  unfold wordOkB allB at h
  simp only [Bool.and_eq_true, List.all_eq_true, decide_eq_true_eq] at h
  refine ⟨h.2.1, fun y hy => ?_⟩
  have h1 := inB_bounds h.1
  have h2 := letB_true (h.2.2 y hy)
  omega
theorem lw_of {k : Int} {w : ByteArray} (h : wordOkB k w = true) : LW w.data.toList := (wdP_of h).let4
/-- a step of an ordered system makes a word less -/
theorem step_less {k : Int} {R : List RulD} (hs : sysP k R) {w : ByteArray} {s : Nat × Nat} (hm : s ∈ stepsF R w) : rk (applyF R w s).data.toList < rk w.data.toList := by
  obtain ⟨h1, h2, h3⟩ := mem_stepsF.1 hm
  have hr := nthR_mem h2
  have hp := hs.1.2 _ hr
  have hl := hs.2 _ hr
  unfold applyF
  rw [replF_list]
  conv => rhs; rw [split_at h3]
  exact rk_swap (lw_of hp.1.1.1) (lw_of hp.1.1.2) hl
theorem step_size {k : Int} {R : List RulD} (hs : sysP k R) {w : ByteArray} {s : Nat × Nat} (hm : s ∈ stepsF R w) : (applyF R w s).size ≤ w.size ∧ s.2 + (nthR R s.1).1.size ≤ w.size := by
  obtain ⟨h1, h2, h3⟩ := mem_stepsF.1 hm
  have hr := nthR_mem h2
  have hp := hs.1.2 _ hr
  have hl := hs.2 _ hr
  have hf := preAt_fits h3 (by have := hp.2; omega)
  have hle : (nthR R s.1).2.size ≤ (nthR R s.1).1.size := by
    unfold lessS ltW at hl
    have e1 : (blW (nthR R s.1).1).length = (nthR R s.1).1.size := rfl
    have e2 : (blW (nthR R s.1).2).length = (nthR R s.1).2.size := rfl
    rcases of_decide_eq_true hl with h | ⟨h, _⟩ <;> omega
  refine ⟨?_, hf⟩
  unfold applyF
  rw [replF_size hf]
  omega
/-- letters of the first k -/
def okLt (k : Int) (v : List UInt8) : Prop := ∀ y ∈ v, letB k y = true
theorem wordOk_iff {k : Int} {w : ByteArray} : wordOkB k w = true ↔ (1 ≤ k ∧ k ≤ 4) ∧ w.size ≤ 16 ∧ okLt k w.data.toList := by
  unfold wordOkB allB okLt
  rw [Bool.and_eq_true, Bool.and_eq_true, List.all_eq_true, decide_eq_true_eq]
  have h : inB k 1 4 = true ↔ 1 ≤ k ∧ k ≤ 4 := by simp [inB]
  rw [h]
theorem step_word {k : Int} {R : List RulD} (hs : sysP k R) {w : ByteArray} (hw : wordOkB k w = true) {s : Nat × Nat} (hm : s ∈ stepsF R w) : wordOkB k (applyF R w s) = true := by
  obtain ⟨h1, h2, h3⟩ := mem_stepsF.1 hm
  have hp := hs.1.2 _ (nthR_mem h2)
  obtain ⟨a1, a2, a3⟩ := wordOk_iff.1 hw
  obtain ⟨b1, b2, b3⟩ := wordOk_iff.1 hp.1.1.2
  refine wordOk_iff.2 ⟨a1, Nat.le_trans (step_size hs hm).1 a2, fun y hy => ?_⟩
  unfold applyF at hy
  rw [replF_list] at hy
  rcases List.mem_append.1 hy with hy | hy
  · exact a3 y ((List.take_sublist _ _).subset hy)
  rcases List.mem_append.1 hy with hy | hy
  · exact b3 y hy
  · exact a3 y ((List.drop_sublist _ _).subset hy)
/-- x is what the first steps lead to from w -/
inductive NormIs (R : List RulD) : ByteArray → ByteArray → Prop
  | done {w : ByteArray} : (stepsF R w).head? = none → NormIs R w w
  | step {w x : ByteArray} {s : Nat × Nat} : (stepsF R w).head? = some s → NormIs R (applyF R w s) x → NormIs R w x
theorem NormIs.uniq {R : List RulD} {w x y : ByteArray} (a : NormIs R w x) (b : NormIs R w y) : x = y := by
  induction a with
  | done h =>
    cases b with
    | done => rfl
    | step h' _ => rw [h] at h'; cases h'
  | step h _ ih =>
    cases b with
    | done h' => rw [h] at h'; cases h'
    | step h' b' =>
      rw [h] at h'
      cases h'
      exact ih b'
theorem head_mem {l : List (Nat × Nat)} {s : Nat × Nat} (h : l.head? = some s) : s ∈ l := by
  cases l with
  | nil => cases h
  | cons a l => cases h; exact List.mem_cons_self
theorem NormIs.ex {k : Int} {R : List RulD} (hs : sysP k R) : ∀ (n : Nat) (w : ByteArray), rk w.data.toList < n → wordOkB k w = true → ∃ x, NormIs R w x ∧ wordOkB k x = true
  | 0, w, h, _ => by omega
  | n + 1, w, h, hw => by
    cases hh : (stepsF R w).head? with
    | none => exact ⟨w, .done hh, hw⟩
    | some s =>
      have hm := head_mem hh
      have h1 := step_less hs hm
      obtain ⟨x, hx, hx2⟩ := NormIs.ex hs n (applyF R w s) (by omega) (step_word hs hw hm)
      exact ⟨x, .step hh hx, hx2⟩
theorem NormIs.word {k : Int} {R : List RulD} (hs : sysP k R) {w x : ByteArray} (h : NormIs R w x) (hw : wordOkB k w = true) : wordOkB k x = true := by
  obtain ⟨y, h1, h2⟩ := NormIs.ex hs _ w (Nat.lt_succ_self _) hw
  rw [h.uniq h1]; exact h2
end Go.Proofs.YtklbehapbchnaaaDoor
namespace Go.Proofs.YtklbehapbchnaaaDoor
open Go.RowKit
set_option linter.unusedVariables false
/-- the places of a part among the first j ones -/
def placeTo (w l : ByteArray) (j : Nat) : List Nat := (List.range j).filter fun i => preAt w i l
def placesF (w l : ByteArray) : List Nat := placeTo w l w.size
theorem mem_places {w l : ByteArray} {i : Nat} : i ∈ placesF w l ↔ i < w.size ∧ preAt w i l = true := by
  unfold placesF placeTo
  rw [List.mem_filter, List.mem_range]
/-- the end of u of n letters is the beginning of v -/
def ovAt (u v : ByteArray) (n : Nat) : Bool := u.data.toList.drop (u.size - n) == v.data.toList.take n
/-- the overlaps of less than j letters -/
def overTo (u v : ByteArray) (j : Nat) : List Nat := (List.range j).filter fun n => decide (0 < n) && ovAt u v n
def overF (u v : ByteArray) : List Nat := overTo u v (min u.size v.size)
theorem mem_over {u v : ByteArray} {n : Nat} : n ∈ overF u v ↔ (n < u.size ∧ n < v.size) ∧ 0 < n ∧ ovAt u v n = true := by
  unfold overF overTo
  rw [List.mem_filter, List.mem_range, Bool.and_eq_true, decide_eq_true_eq]
  constructor
  · rintro ⟨h1, h2, h3⟩; exact ⟨by omega, h2, h3⟩
  · rintro ⟨h1, h2, h3⟩; exact ⟨by omega, h2, h3⟩
/-- a pair: its word, its rules, the place of the second one -/
abbrev PairD := ByteArray × Nat × Nat × Nat
/-- one rule inside of another one -/
def inP (R : List RulD) (i j p : Nat) : PairD := ((nthR R i).1, i, j, p)
def inF (R : List RulD) (i j : Nat) : List PairD := if i = j then [] else (placesF (nthR R i).1 (nthR R j).1).map (inP R i j)
/-- the end of one the beginning of another one -/
def acP (R : List RulD) (i j n : Nat) : PairD := ((nthR R i).1 ++ (nthR R j).1.extract n (nthR R j).1.size, i, j, (nthR R i).1.size - n)
def acF (R : List RulD) (i j : Nat) : List PairD := (overF (nthR R i).1 (nthR R j).1).map (acP R i j)
/-- the pairs of a rule with the first j ones -/
def pairAt (R : List RulD) (i j : Nat) : List PairD := (List.range j).flatMap fun b => inF R i b ++ acF R i b
def pairsF (R : List RulD) : List PairD := (List.range R.length).flatMap fun a => pairAt R a R.length
/-- both steps of a pair can be made -/
structure PairOk (R : List RulD) (k : Int) (p : PairD) : Prop where
  one : (p.2.1, 0) ∈ stepsF R p.1
  two : (p.2.2.1, p.2.2.2) ∈ stepsF R p.1
  word : wordOkB k p.1 = true
theorem preAt_zero (w : ByteArray) : preAt w 0 w = true := by
  unfold preAt; rw [List.drop_zero, List.isPrefixOf_iff_prefix]; exact List.prefix_refl _
theorem pairOk {k : Int} {R : List RulD} (hs : sysP k R) {p : PairD} (hp : p ∈ pairsF R) : PairOk R k p := by
  unfold pairsF pairAt at hp
  simp only [List.mem_flatMap, List.mem_range] at hp
  obtain ⟨i, hi, j, hj, hp⟩ := hp
  have ri := hs.1.2 _ (nthR_mem hi)
  have rj := hs.1.2 _ (nthR_mem hj)
  have wi := ri.1.1.1
  have wj := rj.1.1.1
  have zi := ri.2
  have zj := rj.2
  rcases List.mem_append.1 hp with hp | hp
  · unfold inF at hp
    split at hp
    · cases hp
    · obtain ⟨q, hq, rfl⟩ := List.mem_map.1 hp
      obtain ⟨h1, h2⟩ := mem_places.1 hq
      exact ⟨mem_stepsF.2 ⟨by show 0 < (nthR R i).1.size; omega, hi, preAt_zero _⟩, mem_stepsF.2 ⟨h1, hj, h2⟩, wi⟩
  · obtain ⟨n, hn, rfl⟩ := List.mem_map.1 hp
    obtain ⟨⟨h1, h2⟩, h3, h4⟩ := mem_over.1 hn
    have e1 : ((nthR R i).1 ++ (nthR R j).1.extract n (nthR R j).1.size).data.toList = (nthR R i).1.data.toList ++ (nthR R j).1.data.toList.drop n := by
      rw [ByteArray.data_append, Array.toList_append, extract_lt]
      have h : (nthR R j).1.data.toList.length = (nthR R j).1.size := rfl
      rw [List.take_of_length_le (Nat.le_of_eq h)]
    have e2 : ((nthR R i).1 ++ (nthR R j).1.extract n (nthR R j).1.size).size = (nthR R i).1.size + ((nthR R j).1.size - n) := by
      rw [ByteArray.size_append, ByteArray.size_extract]; omega
    have hli : (nthR R i).1.data.toList.length = (nthR R i).1.size := rfl
    unfold ovAt at h4
    rw [beq_iff_eq] at h4
    refine ⟨mem_stepsF.2 ⟨?_, hi, ?_⟩, mem_stepsF.2 ⟨?_, hj, ?_⟩, ?_⟩
    · show 0 < _
      show 0 < ((nthR R i).1 ++ (nthR R j).1.extract n (nthR R j).1.size).size
      rw [e2]; omega
    · show preAt ((nthR R i).1 ++ (nthR R j).1.extract n (nthR R j).1.size) 0 (nthR R i).1 = true
      unfold preAt
      rw [List.drop_zero, e1, List.isPrefixOf_iff_prefix]
      exact List.prefix_append _ _
    · show (nthR R i).1.size - n < ((nthR R i).1 ++ (nthR R j).1.extract n (nthR R j).1.size).size
      rw [e2]; omega
    · show preAt ((nthR R i).1 ++ (nthR R j).1.extract n (nthR R j).1.size) ((nthR R i).1.size - n) (nthR R j).1 = true
      unfold preAt
      rw [e1, List.isPrefixOf_iff_prefix, List.drop_append_of_le_length (by omega), h4, List.take_append_drop]
      exact List.prefix_refl _
    · obtain ⟨a1, a2, a3⟩ := wordOk_iff.1 wi
      obtain ⟨_, _, b3⟩ := wordOk_iff.1 wj
      refine wordOk_iff.2 ⟨a1, ?_, ?_⟩
      · show ((nthR R i).1 ++ (nthR R j).1.extract n (nthR R j).1.size).size ≤ 16
        have := ri.1.2.1; have := rj.1.2.1
        rw [e2]; omega
      · show okLt k ((nthR R i).1 ++ (nthR R j).1.extract n (nthR R j).1.size).data.toList
        rw [e1]
        intro y hy
        rcases List.mem_append.1 hy with hy | hy
        · exact a3 y hy
        · exact b3 y ((List.drop_sublist _ _).subset hy)
def leftP (R : List RulD) (p : PairD) : ByteArray := applyF R p.1 (p.2.1, 0)
def rightP (R : List RulD) (p : PairD) : ByteArray := applyF R p.1 (p.2.2.1, p.2.2.2)
/-- both sides of a pair have one normal form -/
def Joined (R : List RulD) (p : PairD) : Prop := ∃ x, NormIs R (leftP R p) x ∧ NormIs R (rightP R p) x
open Classical in
/-- the open ones among pairs -/
noncomputable def openL (R : List RulD) (l : List PairD) : List PairD := l.filter fun p => !decide (Joined R p)
end Go.Proofs.YtklbehapbchnaaaDoor
namespace Go.Proofs.YtklbehapbchnaaaDoor
open Go.RowKit
set_option linter.unusedVariables false
/-- the cells of a list of structs -/
def cellsL {α : Type} (f : α → List Value) (l : List α) : List Value := l.flatMap f
theorem cellsL_len {α : Type} {f : α → List Value} {m : Nat} (hf : ∀ x, (f x).length = m) : ∀ l : List α, (cellsL f l).length = l.length * m
  | [] => by simp [cellsL]
  | x :: l => by
    have ih := cellsL_len hf l
    unfold cellsL at *
    rw [List.flatMap_cons, List.length_append, hf, ih, List.length_cons, Nat.succ_mul]
    omega
theorem cellsL_at {α : Type} {f : α → List Value} {m : Nat} (hf : ∀ x, (f x).length = m) : ∀ (l : List α) (j : Nat) (hj : j < l.length) (i : Nat), i < m → (cellsL f l)[j * m + i]? = (f l[j])[i]?
  | [], j, hj, _, _ => by simp at hj
  | x :: l, 0, _, i, hi => by
    unfold cellsL
    rw [List.flatMap_cons, List.getElem?_append_left (by rw [hf]; omega)]
    simp
  | x :: l, j + 1, hj, i, hi => by
    have ih := cellsL_at hf l j (by simpa using hj) i hi
    unfold cellsL at *
    rw [List.flatMap_cons, List.getElem?_append_right (by rw [hf, Nat.succ_mul]; omega), hf]
    rw [show (j + 1) * m + i - m = j * m + i by rw [Nat.succ_mul]; omega, ih]
    rfl
/-- a row of structs -/
def RowsIn {α : Type} (f : α → List Value) (w : World) (a : Option Addr) (l : List α) : Prop := CellsIn w a (cellsL f l)
theorem RowsIn.later {α : Type} {f : α → List Value} {w w' : World} {a : Option Addr} {l : List α} (h : RowsIn f w a l) (hb : Below w.heap.size w w') : RowsIn f w' a l := CellsIn.later h hb
theorem RowsIn.cell {α : Type} {f : α → List Value} {m : Nat} (hf : ∀ x, (f x).length = m) (hm : 0 < m) {w : World} {a : Option Addr} {l : List α} (h : RowsIn f w a l) {i : Nat} (hi : i < l.length) :
    ∃ b off, a = some ⟨b, off, none⟩ ∧ b < w.heap.size ∧ ∀ j (hj : j < l.length) c v, (f l[j])[c]? = some v → w.cell? ⟨b, off + j * m + c, none⟩ = some v := by
  have hlen := cellsL_len hf l
  rcases h with h | ⟨b, off, ha, hc⟩
  · rw [h, List.length_nil] at hlen
    have : l.length * m ≠ 0 := Nat.mul_ne_zero (by omega) (by omega)
    omega
  · have key : ∀ j (hj : j < l.length) c v, (f l[j])[c]? = some v → w.cell? ⟨b, off + j * m + c, none⟩ = some v := fun j hj c v hv => by
      have hcm : c < m := by rw [← hf l[j]]; exact (List.getElem?_eq_some_iff.1 hv).1
      have h1 := cellsL_at hf l j hj c hcm
      rw [hv] at h1
      obtain ⟨h2, h3⟩ := List.getElem?_eq_some_iff.1 h1
      have h4 := hc (j * m + c) h2
      rw [h3] at h4
      rw [Nat.add_assoc]
      exact h4
    refine ⟨b, off, ha, ?_, key⟩
    have h0 : 0 < (f l[i]).length := by rw [hf]; exact hm
    exact World.block_lt_of_cell? w _ (key i hi 0 (f l[i])[0] (List.getElem?_eq_getElem h0))
end Go.Proofs.YtklbehapbchnaaaDoor
namespace Go.Proofs.YtklbehapbchnaaaDoor
open Go.RowKit
set_option linter.unusedVariables false
end Go.Proofs.YtklbehapbchnaaaDoor
namespace Go.Proofs.YtklbehapbchnaaaDoor
open Go.RowKit
set_option linter.unusedVariables false
end Go.Proofs.YtklbehapbchnaaaDoor
namespace Go.Proofs.YtklbehapbchnaaaDoor
open Go.RowKit
set_option linter.unusedVariables false
/-- what FirstStep hands back -/
def RetFS (R : List RulD) (w0 : ByteArray) (w : World) (e : Ending) (w' : World) : Prop :=
  Below w.heap.size w w' ∧ ((∃ s, (stepsF R w0).head? = some s ∧ e = .returned (.tuple #[.agg #[.int .i64 (s.1 : Nat), .int .i64 (s.2 : Nat)], .bool true])) ∨ ((stepsF R w0).head? = none ∧ e = .returned (.tuple #[.agg #[.int .i64 0, .int .i64 0], .bool false])))
end Go.Proofs.YtklbehapbchnaaaDoor
namespace Go.Proofs.YtklbehapbchnaaaDoor
open Go.RowKit
set_option linter.unusedVariables false
end Go.Proofs.YtklbehapbchnaaaDoor
namespace Go.Proofs.YtklbehapbchnaaaDoor
open Go.RowKit
set_option linter.unusedVariables false
end Go.Proofs.YtklbehapbchnaaaDoor
namespace Go.Proofs.YtklbehapbchnaaaDoor
open Go.RowKit
set_option linter.unusedVariables false
end Go.Proofs.YtklbehapbchnaaaDoor
namespace Go.Proofs.YtklbehapbchnaaaDoor
open Go.RowKit
set_option linter.unusedVariables false
/-- what is known of the first step -/
def FsP (R : List RulD) (v : ByteArray) (x y : Nat) (b : Bool) : Prop := (b = true ∧ (stepsF R v).head? = some (x, y)) ∨ (b = false ∧ (stepsF R v).head? = none ∧ x = 0 ∧ y = 0)
theorem RetFS.form {R : List RulD} {v : ByteArray} {w : World} {e : Ending} {w' : World} (h : RetFS R v w e w') : ∃ x y b, FsP R v x y b ∧ e = .returned (.tuple #[.agg #[.int .i64 (x : Nat), .int .i64 (y : Nat)], .bool b]) ∧ Below w.heap.size w w' := by
  obtain ⟨hb, ⟨s, hs, rfl⟩ | ⟨hs, rfl⟩⟩ := h
  · exact ⟨s.1, s.2, true, .inl ⟨rfl, hs⟩, rfl, hb⟩
  · exact ⟨0, 0, false, .inr ⟨rfl, hs, rfl, rfl⟩, rfl, hb⟩
end Go.Proofs.YtklbehapbchnaaaDoor
namespace Go.Proofs.YtklbehapbchnaaaDoor
open Go.RowKit
set_option linter.unusedVariables false
/-- rules that make a word less -/
def sysW (k : Int) (R : List RulD) : Prop := ((1 ≤ k ∧ k ≤ 4) ∧ ∀ r ∈ R, ruleP k r) ∧ ∀ r ∈ R, lessS r.2 r.1 = true
theorem sysP.weak {k : Int} {R : List RulD} (h : sysP k R) : sysW k R := ⟨⟨h.1.1.1, h.1.2⟩, h.2⟩
/-- a step of an ordered system makes a word less -/
theorem step_lessW {k : Int} {R : List RulD} (hs : sysW k R) {w : ByteArray} {s : Nat × Nat} (hm : s ∈ stepsF R w) : rk (applyF R w s).data.toList < rk w.data.toList := by
  obtain ⟨h1, h2, h3⟩ := mem_stepsF.1 hm
  have hr := nthR_mem h2
  have hp := hs.1.2 _ hr
  have hl := hs.2 _ hr
  unfold applyF
  rw [replF_list]
  conv => rhs; rw [split_at h3]
  exact rk_swap (lw_of hp.1.1.1) (lw_of hp.1.1.2) hl
theorem step_sizeW {k : Int} {R : List RulD} (hs : sysW k R) {w : ByteArray} {s : Nat × Nat} (hm : s ∈ stepsF R w) : (applyF R w s).size ≤ w.size ∧ s.2 + (nthR R s.1).1.size ≤ w.size := by
  obtain ⟨h1, h2, h3⟩ := mem_stepsF.1 hm
  have hr := nthR_mem h2
  have hp := hs.1.2 _ hr
  have hl := hs.2 _ hr
  have hf := preAt_fits h3 (by have := hp.2; omega)
  have hle : (nthR R s.1).2.size ≤ (nthR R s.1).1.size := by
    unfold lessS ltW at hl
    have e1 : (blW (nthR R s.1).1).length = (nthR R s.1).1.size := rfl
    have e2 : (blW (nthR R s.1).2).length = (nthR R s.1).2.size := rfl
    rcases of_decide_eq_true hl with h | ⟨h, _⟩ <;> omega
  refine ⟨?_, hf⟩
  unfold applyF
  rw [replF_size hf]
  omega
theorem step_wordW {k : Int} {R : List RulD} (hs : sysW k R) {w : ByteArray} (hw : wordOkB k w = true) {s : Nat × Nat} (hm : s ∈ stepsF R w) : wordOkB k (applyF R w s) = true := by
  obtain ⟨h1, h2, h3⟩ := mem_stepsF.1 hm
  have hp := hs.1.2 _ (nthR_mem h2)
  obtain ⟨a1, a2, a3⟩ := wordOk_iff.1 hw
  obtain ⟨b1, b2, b3⟩ := wordOk_iff.1 hp.1.1.2
  refine wordOk_iff.2 ⟨a1, Nat.le_trans (step_sizeW hs hm).1 a2, fun y hy => ?_⟩
  unfold applyF at hy
  rw [replF_list] at hy
  rcases List.mem_append.1 hy with hy | hy
  · exact a3 y ((List.take_sublist _ _).subset hy)
  rcases List.mem_append.1 hy with hy | hy
  · exact b3 y hy
  · exact a3 y ((List.drop_sublist _ _).subset hy)
theorem NormIs.exW {k : Int} {R : List RulD} (hs : sysW k R) : ∀ (n : Nat) (w : ByteArray), rk w.data.toList < n → wordOkB k w = true → ∃ x, NormIs R w x ∧ wordOkB k x = true
  | 0, w, h, _ => by omega
  | n + 1, w, h, hw => by
    cases hh : (stepsF R w).head? with
    | none => exact ⟨w, .done hh, hw⟩
    | some s =>
      have hm := head_mem hh
      have h1 := step_lessW hs hm
      obtain ⟨x, hx, hx2⟩ := NormIs.exW hs n (applyF R w s) (by omega) (step_wordW hs hw hm)
      exact ⟨x, .step hh hx, hx2⟩
theorem NormIs.wordW {k : Int} {R : List RulD} (hs : sysW k R) {w x : ByteArray} (h : NormIs R w x) (hw : wordOkB k w = true) : wordOkB k x = true := by
  obtain ⟨y, h1, h2⟩ := NormIs.exW hs _ w (Nat.lt_succ_self _) hw
  rw [h.uniq h1]; exact h2
end Go.Proofs.YtklbehapbchnaaaDoor
namespace Go.Proofs.YtklbehapbchnaaaDoor
open Go.RowKit
set_option linter.unusedVariables false
open Classical in
/-- the normal form of a word, if there is one -/
noncomputable def nfC (R : List RulD) (u : ByteArray) : ByteArray := if h : ∃ x, NormIs R u x then Classical.choose h else ⟨#[]⟩
theorem nfC_eq {R : List RulD} {u x : ByteArray} (h : NormIs R u x) : nfC R u = x := by
  have h1 : ∃ x, NormIs R u x := ⟨x, h⟩
  unfold nfC
  rw [dif_pos h1]
  exact (Classical.choose_spec h1).uniq h
end Go.Proofs.YtklbehapbchnaaaDoor
namespace Go.Proofs.YtklbehapbchnaaaDoor
open Go.RowKit
set_option linter.unusedVariables false
abbrev Wd := List UInt8
end Go.Proofs.YtklbehapbchnaaaDoor
namespace Go.Proofs.YtklbehapbchnaaaDoor
set_option linter.unusedVariables false
/-- the number of a word, in base 257 -/
def wtL : Wd → Nat → Nat
  | [], a => a
  | y :: v, a => wtL v (a * 257 + (y.toNat + 1))
def wt (v : Wd) : Nat := wtL v 0
theorem wtL_add : ∀ (v : Wd) (a : Nat), wtL v a = a * 257 ^ v.length + wt v
  | [], a => by simp [wtL, wt]
  | y :: v, a => by
    unfold wt
    simp only [wtL]
    rw [wtL_add v, wtL_add v (0 * 257 + _)]
    rw [List.length_cons, Nat.pow_succ, Nat.add_mul, Nat.zero_mul, Nat.zero_add, Nat.mul_comm (257 ^ v.length) 257, ← Nat.mul_assoc]
    omega
theorem wt_app (u v : Wd) : wt (u ++ v) = wt u * 257 ^ v.length + wt v := by
  have h : ∀ (u : Wd) (a : Nat), wtL (u ++ v) a = wtL v (wtL u a) := fun u => by
    induction u with
    | nil => intro a; rfl
    | cons y u ih => intro a; exact ih _
  unfold wt
  rw [h, wtL_add]
  rfl
theorem wt_cons (y : UInt8) (v : Wd) : wt (y :: v) = (y.toNat + 1) * 257 ^ v.length + wt v := by
  have h := wt_app [y] v
  have e : wt [y] = y.toNat + 1 := by simp [wt, wtL]
  rw [e] at h
  exact h
theorem wt_lt : ∀ (v : Wd), wt v < 257 ^ v.length
  | [] => by simp [wt, wtL]
  | y :: v => by
    have ih := wt_lt v
    have h1 := y.toNat_lt
    rw [wt_cons, List.length_cons, Nat.pow_succ]
    have h2 : (y.toNat + 1) * 257 ^ v.length ≤ 256 * 257 ^ v.length := Nat.mul_le_mul_right _ (by omega)
    omega
theorem wt_ge (y : UInt8) (v : Wd) : 257 ^ v.length ≤ wt (y :: v) := by
  rw [wt_cons]
  have h2 : 1 * 257 ^ v.length ≤ (y.toNat + 1) * 257 ^ v.length := Nat.mul_le_mul_right _ (by omega)
  omega
theorem wt_len {a b : Wd} (h : wt a < wt b) : a.length ≤ b.length := by
  rcases Nat.lt_or_ge b.length a.length with h1 | h1
  · exfalso
    cases a with
    | nil => simp at h1
    | cons y v =>
      have h2 := wt_ge y v
      have h3 := wt_lt b
      have h4 : 257 ^ b.length ≤ 257 ^ v.length := Nat.pow_le_pow_right (by omega) (by simp at h1; omega)
      omega
  · exact h1
theorem wt_ctx {a b : Wd} (x y : Wd) (h : wt a < wt b) : wt (x ++ (a ++ y)) < wt (x ++ (b ++ y)) := by
  have hl := wt_len h
  rw [wt_app x (a ++ y), wt_app x (b ++ y), wt_app a y, wt_app b y, List.length_append, List.length_append, Nat.pow_add, Nat.pow_add]
  have h2 : 257 ^ a.length ≤ 257 ^ b.length := Nat.pow_le_pow_right (by omega) hl
  have h3 : wt x * (257 ^ a.length * 257 ^ y.length) ≤ wt x * (257 ^ b.length * 257 ^ y.length) := Nat.mul_le_mul_left _ (Nat.mul_le_mul_right _ h2)
  have h4 : (wt a + 1) * 257 ^ y.length ≤ wt b * 257 ^ y.length := Nat.mul_le_mul_right _ h
  have h5 : 1 ≤ 257 ^ y.length := Nat.one_le_pow _ _ (by omega)
  rw [Nat.add_mul, Nat.one_mul] at h4
  omega
theorem wt_lex : ∀ {u v : Wd}, u.length = v.length → u < v → wt u < wt v
  | [], [], _, h => absurd h (List.lt_irrefl _)
  | [], _ :: _, h, _ => by simp at h
  | _ :: _, [], h, _ => by simp at h
  | a :: u, b :: v, hl, h => by
    have hl2 : u.length = v.length := by simpa using hl
    rw [wt_cons, wt_cons, hl2]
    rcases List.cons_lt_cons_iff.1 h with h1 | ⟨rfl, h1⟩
    · have h2 := UInt8.lt_iff_toNat_lt.1 h1
      have h3 := wt_lt u
      rw [hl2] at h3
      have h4 : (a.toNat + 1 + 1) * 257 ^ v.length ≤ (b.toNat + 1) * 257 ^ v.length := Nat.mul_le_mul_right _ (by omega)
      rw [Nat.add_mul] at h4
      omega
    · have := wt_lex hl2 h1
      omega
theorem wt_short {u v : Wd} (h : u.length < v.length) : wt u < wt v := by
  cases v with
  | nil => simp at h
  | cons y v =>
    have h1 := wt_lt u
    have h2 := wt_ge y v
    have h3 : 257 ^ u.length ≤ 257 ^ v.length := Nat.pow_le_pow_right (by omega) (by simp at h; omega)
    omega
/-- rules: which left side has which right side -/
abbrev Rs := Wd → Wd → Prop
/-- one step -/
def Stp (E : Rs) (u v : Wd) : Prop := ∃ x l r y, E l r ∧ u = x ++ (l ++ y) ∧ v = x ++ (r ++ y)
theorem Stp.ctx {E : Rs} {u v : Wd} (x y : Wd) (h : Stp E u v) : Stp E (x ++ (u ++ y)) (x ++ (v ++ y)) := by
  obtain ⟨a, l, r, b, h1, rfl, rfl⟩ := h
  exact ⟨x ++ a, l, r, b ++ y, h1, by simp [List.append_assoc], by simp [List.append_assoc]⟩
theorem Stp.mono {E F : Rs} (h : ∀ l r, E l r → F l r) {u v : Wd} (s : Stp E u v) : Stp F u v := by
  obtain ⟨a, l, r, b, h1, h2, h3⟩ := s
  exact ⟨a, l, r, b, h _ _ h1, h2, h3⟩
theorem Stp.rule {E : Rs} {l r : Wd} (h : E l r) : Stp E l r := ⟨[], l, r, [], h, by simp, by simp⟩
/-- each rule makes a word less -/
def Dwn (E : Rs) : Prop := ∀ l r, E l r → wt r < wt l
theorem Dwn.stp {E : Rs} (h : Dwn E) {u v : Wd} (s : Stp E u v) : wt v < wt u := by
  obtain ⟨x, l, r, y, h1, rfl, rfl⟩ := s
  exact wt_ctx x y (h _ _ h1)
/-- many steps -/
inductive Red (E : Rs) : Wd → Wd → Prop
  | refl (u : Wd) : Red E u u
  | step {u v x : Wd} : Stp E u v → Red E v x → Red E u x
theorem Red.trans {E : Rs} {u v x : Wd} (a : Red E u v) (b : Red E v x) : Red E u x := by
  induction a with
  | refl => exact b
  | step s _ ih => exact .step s (ih b)
theorem Red.one {E : Rs} {u v : Wd} (s : Stp E u v) : Red E u v := .step s (.refl _)
theorem Red.ctx {E : Rs} {u v : Wd} (x y : Wd) (h : Red E u v) : Red E (x ++ (u ++ y)) (x ++ (v ++ y)) := by
  induction h with
  | refl => exact .refl _
  | step s _ ih => exact .step (s.ctx x y) ih
theorem Red.le {E : Rs} (hd : Dwn E) {u v : Wd} (h : Red E u v) : wt v ≤ wt u := by
  induction h with
  | refl => exact Nat.le_refl _
  | step s _ ih => have := hd.stp s; omega
theorem Red.mono {E F : Rs} (h : ∀ l r, E l r → F l r) {u v : Wd} (s : Red E u v) : Red F u v := by
  induction s with
  | refl => exact .refl _
  | step s _ ih => exact .step (s.mono h) ih
/-- no step can be made -/
def Irr (E : Rs) (u : Wd) : Prop := ∀ v, ¬ Stp E u v
/-- connected by steps, forth and back, all words below a number -/
inductive Conn (E : Rs) (n : Nat) : Wd → Wd → Prop
  | refl (u : Wd) : Conn E n u u
  | fwd {u v x : Wd} : wt u < n → wt v < n → Stp E u v → Conn E n v x → Conn E n u x
  | bwd {u v x : Wd} : wt u < n → wt v < n → Stp E v u → Conn E n v x → Conn E n u x
theorem Conn.trans {E : Rs} {n : Nat} {u v x : Wd} (a : Conn E n u v) (b : Conn E n v x) : Conn E n u x := by
  induction a with
  | refl => exact b
  | fwd h1 h2 s _ ih => exact .fwd h1 h2 s (ih b)
  | bwd h1 h2 s _ ih => exact .bwd h1 h2 s (ih b)
theorem Conn.symm {E : Rs} {n : Nat} {u v : Wd} (a : Conn E n u v) : Conn E n v u := by
  induction a with
  | refl => exact .refl _
  | fwd h1 h2 s _ ih => exact ih.trans (.bwd h2 h1 s (.refl _))
  | bwd h1 h2 s _ ih => exact ih.trans (.fwd h2 h1 s (.refl _))
theorem Conn.mono {E : Rs} {n k : Nat} (h : n ≤ k) {u v : Wd} (a : Conn E n u v) : Conn E k u v := by
  induction a with
  | refl => exact .refl _
  | fwd h1 h2 s _ ih => exact .fwd (by omega) (by omega) s ih
  | bwd h1 h2 s _ ih => exact .bwd (by omega) (by omega) s ih
theorem Conn.ctx {E : Rs} {w u v : Wd} (x y : Wd) (a : Conn E (wt w) u v) : Conn E (wt (x ++ (w ++ y))) (x ++ (u ++ y)) (x ++ (v ++ y)) := by
  induction a with
  | refl => exact .refl _
  | fwd h1 h2 s _ ih => exact .fwd (wt_ctx x y h1) (wt_ctx x y h2) (s.ctx x y) ih
  | bwd h1 h2 s _ ih => exact .bwd (wt_ctx x y h1) (wt_ctx x y h2) (s.ctx x y) ih
/-- the critical pairs of S are connected in E below their words -/
structure Crit (S E : Rs) : Prop where
  inn : ∀ l1 r1 l2 r2 x y, S l1 r1 → S l2 r2 → l1 = x ++ (l2 ++ y) → Conn E (wt l1) r1 (x ++ (r2 ++ y))
  acr : ∀ l1 r1 l2 r2 x t y, S l1 r1 → S l2 r2 → l1 = x ++ t → l2 = t ++ y → t ≠ [] → x ≠ [] → y ≠ [] → Conn E (wt (x ++ (t ++ y))) (r1 ++ y) (x ++ r2)
/-- two words that are one: the first of two parts lies in front -/
theorem split_two {p1 q1 p2 q2 : Wd} (h : p1 ++ q1 = p2 ++ q2) (hl : p1.length ≤ p2.length) : ∃ t, p2 = p1 ++ t ∧ q1 = t ++ q2 := by
  obtain ⟨t, ht⟩ : p1 <+: p2 := List.prefix_of_prefix_length_le (List.prefix_append p1 q1) (h ▸ List.prefix_append p2 q2) hl
  refine ⟨t, ht.symm, ?_⟩
  rw [← ht, List.append_assoc] at h
  exact List.append_cancel_left h
/-- two steps from one word, the first one's place in front -/
theorem local_le {S : Rs} (hd : Dwn S) (hc : Crit S S) {p1 l1 r1 q1 p2 l2 r2 q2 : Wd} (h1 : S l1 r1) (h2 : S l2 r2) (h : p1 ++ (l1 ++ q1) = p2 ++ (l2 ++ q2)) (hl : p1.length ≤ p2.length) :
    Conn S (wt (p1 ++ (l1 ++ q1))) (p1 ++ (r1 ++ q1)) (p2 ++ (r2 ++ q2)) := by
  obtain ⟨t, rfl, h3⟩ := split_two h hl
  -- l1 ++ q1 = t ++ (l2 ++ q2)
  rcases Nat.lt_or_ge t.length l1.length with hlt | hge
  · obtain ⟨s, rfl, h5⟩ := split_two h3.symm (Nat.le_of_lt hlt)
    -- l1 = t ++ s, l2 ++ q2 = s ++ q1
    have hs : s ≠ [] := by rintro rfl; simp at hlt
    rcases Nat.lt_or_ge s.length l2.length with hlt2 | hge2
    · obtain ⟨y, rfl, rfl⟩ := split_two h5.symm (Nat.le_of_lt hlt2)
      have hy : y ≠ [] := by rintro rfl; simp at hlt2
      by_cases ht : t = []
      · subst ht
        have h6 := hc.inn _ _ _ _ [] y h2 h1 (by simp)
        have h7 := (h6.ctx p1 q2).symm
        simpa [List.append_assoc] using h7
      · have h6 := hc.acr _ _ _ _ t s y h1 h2 rfl rfl hs ht hy
        have h7 := h6.ctx p1 q2
        simpa [List.append_assoc] using h7
    · obtain ⟨y, rfl, rfl⟩ := split_two h5 hge2
      have h6 := hc.inn _ _ _ _ t y h1 h2 rfl
      have h7 := h6.ctx p1 q1
      simpa [List.append_assoc] using h7
  · obtain ⟨s, rfl, rfl⟩ := split_two h3 hge
    -- t = l1 ++ s, q1 = s ++ (l2 ++ q2)
    have s1 : Stp S (p1 ++ (r1 ++ (s ++ (l2 ++ q2)))) (p1 ++ (r1 ++ (s ++ (r2 ++ q2)))) := ⟨p1 ++ (r1 ++ s), l2, r2, q2, h2, by simp [List.append_assoc], by simp [List.append_assoc]⟩
    have s2 : Stp S (p1 ++ (l1 ++ (s ++ (r2 ++ q2)))) (p1 ++ (r1 ++ (s ++ (r2 ++ q2)))) := ⟨p1, l1, r1, _, h1, rfl, rfl⟩
    have s3 : Stp S (p1 ++ (l1 ++ (s ++ (l2 ++ q2)))) (p1 ++ (r1 ++ (s ++ (l2 ++ q2)))) := ⟨p1, l1, r1, _, h1, rfl, rfl⟩
    have s4 : Stp S (p1 ++ (l1 ++ (s ++ (l2 ++ q2)))) (p1 ++ (l1 ++ (s ++ (r2 ++ q2)))) := ⟨p1 ++ (l1 ++ s), l2, r2, q2, h2, by simp [List.append_assoc], by simp [List.append_assoc]⟩
    have d1 := hd.stp s1
    have d3 := hd.stp s3
    have d4 := hd.stp s4
    have h7 : Conn S (wt (p1 ++ (l1 ++ (s ++ (l2 ++ q2))))) (p1 ++ (r1 ++ (s ++ (l2 ++ q2)))) (p1 ++ (l1 ++ (s ++ (r2 ++ q2)))) := .fwd d3 (by omega) s1 (.bwd (by omega) d4 s2 (.refl _))
    simpa [List.append_assoc] using h7
/-- two steps from one word -/
theorem local_all {S : Rs} (hd : Dwn S) (hc : Crit S S) {w a b : Wd} (s1 : Stp S w a) (s2 : Stp S w b) : Conn S (wt w) a b := by
  obtain ⟨p1, l1, r1, q1, h1, rfl, rfl⟩ := s1
  obtain ⟨p2, l2, r2, q2, h2, h, rfl⟩ := s2
  rcases Nat.le_total p1.length p2.length with hl | hl
  · exact local_le hd hc h1 h2 h hl
  · rw [h]
    exact (local_le hd hc h2 h1 h.symm hl).symm
/-- a normal form -/
def Nf (S : Rs) (u x : Wd) : Prop := Red S u x ∧ Irr S x
theorem Nf.ex {S : Rs} (hd : Dwn S) : ∀ (n : Nat) (u : Wd), wt u < n → ∃ x, Nf S u x
  | 0, u, h => by omega
  | n + 1, u, h => by
    by_cases hi : Irr S u
    · exact ⟨u, .refl _, hi⟩
    · obtain ⟨v, hv⟩ : ∃ v, Stp S u v := Classical.byContradiction fun hn => hi fun v hv => hn ⟨v, hv⟩
      have := hd.stp hv
      obtain ⟨x, h1, h2⟩ := Nf.ex hd n v (by omega)
      exact ⟨x, .step hv h1, h2⟩
theorem Nf.conn {S : Rs} (hd : Dwn S) {n : Nat} (hu : ∀ u, wt u < n → ∀ x y, Nf S u x → Nf S u y → x = y) {u v : Wd} (h : Conn S n u v) : ∀ x, Nf S u x → Nf S v x := by
  induction h with
  | refl => intro x hx; exact hx
  | @fwd u v z h1 h2 s _ ih =>
    intro x hx
    obtain ⟨y, hy⟩ := Nf.ex hd _ v (Nat.lt_succ_self _)
    obtain rfl := hu u h1 x y hx ⟨.step s hy.1, hy.2⟩
    exact ih _ hy
  | @bwd u v z h1 h2 s _ ih =>
    intro x hx
    exact ih _ ⟨.step s hx.1, hx.2⟩
theorem Nf.uniq {S : Rs} (hd : Dwn S) (hc : Crit S S) : ∀ (n : Nat) (u : Wd), wt u < n → ∀ x y, Nf S u x → Nf S u y → x = y
  | 0, u, h => by omega
  | n + 1, u, h => by
    rintro x y ⟨h1, h2⟩ ⟨h3, h4⟩
    cases h1 with
    | refl =>
      cases h3 with
      | refl => rfl
      | step s _ => exact absurd s (h2 _)
    | @step _ a _ s1 r1 =>
      cases h3 with
      | refl => exact absurd s1 (h4 _)
      | @step _ b _ s2 r2 =>
        have c := local_all hd hc s1 s2
        have d2 := hd.stp s2
        have IH := Nf.uniq hd hc n
        have h5 := Nf.conn hd (fun v hv => IH v (by omega)) c x ⟨r1, h2⟩
        exact IH b (by omega) x y h5 ⟨r2, h4⟩
end Go.Proofs.YtklbehapbchnaaaDoor
namespace Go.Proofs.YtklbehapbchnaaaDoor
open Go.RowKit
set_option linter.unusedVariables false
/-- a text of one byte -/
def oneC (x : Int) : ByteArray := ⟨#[UInt8.ofNat x.toNat]⟩
/-- the letter of a number -/
def letterN (x : Nat) : ByteArray := oneC (97 + (x : Int))
end Go.Proofs.YtklbehapbchnaaaDoor
