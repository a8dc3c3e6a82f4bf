/-
  ReplaceAt, PlacesOf and OverlapsOf, of the program and of the reference.
-/
import Derived.Test.YtgoeadgpbidgiaaGreatClp05
import Derived.Test.YtgoeadgpbidgiaaGreatClp04
namespace Go.Proofs.YtgoeadgpbidgiaaGreat
open Go.RowKit
set_option linter.unusedVariables false
/-- the letters a .. d alone -/
def LW (v : List UInt8) : Prop := ∀ y ∈ v, 97 ≤ y.toNat ∧ y.toNat ≤ 100
theorem LW.app {u v : List UInt8} (hu : LW u) (hv : LW v) : LW (u ++ v) := fun y hy => by
  rcases List.mem_append.1 hy with h | h
  · exact hu y h
  · exact hv y h
theorem LW.sub {u v : List UInt8} (h : LW v) (hs : u.Sublist v) : LW u := fun y hy => h y (hs.subset hy)
/-- the number of a word: its letters as the digits 1 to 4 in base 5 -/
def rkL : List UInt8 → Nat → Nat
  | [], a => a
  | y :: v, a => rkL v (a * 5 + (y.toNat - 96))
def rk (v : List UInt8) : Nat := rkL v 0
theorem rkL_add : ∀ (v : List UInt8) (a : Nat), rkL v a = a * 5 ^ v.length + rk v
  | [], a => by simp [rkL, rk]
  | y :: v, a => by
    unfold rk
    simp only [rkL]
    rw [rkL_add v, rkL_add v (0 * 5 + _)]
    rw [List.length_cons, Nat.pow_succ, Nat.add_mul, Nat.zero_mul, Nat.zero_add, Nat.mul_comm (5 ^ v.length) 5, ← Nat.mul_assoc]
    omega
theorem rk_app (u v : List UInt8) : rk (u ++ v) = rk u * 5 ^ v.length + rk v := by
  have h : ∀ (u : List UInt8) (a : Nat), rkL (u ++ v) a = rkL v (rkL u a) := fun u => by
    induction u with
    | nil => intro a; rfl
    | cons y u ih => intro a; exact ih _
  unfold rk
  rw [h, rkL_add]
  rfl
theorem rk_cons (y : UInt8) (v : List UInt8) : rk (y :: v) = (y.toNat - 96) * 5 ^ v.length + rk v := by
  have h := rk_app [y] v
  have e : rk [y] = y.toNat - 96 := by simp [rk, rkL]
  rw [e] at h
  exact h
theorem rk_lt : ∀ {v : List UInt8}, LW v → rk v < 5 ^ v.length
  | [], _ => by simp [rk, rkL]
  | y :: v, h => by
    have ih := rk_lt (v := v) (fun z hz => h z (List.mem_cons_of_mem _ hz))
    have h1 := h y List.mem_cons_self
    rw [rk_cons, List.length_cons, Nat.pow_succ]
    have h2 : (y.toNat - 96) * 5 ^ v.length ≤ 4 * 5 ^ v.length := Nat.mul_le_mul_right _ (by omega)
    omega
theorem rk_ge {y : UInt8} {v : List UInt8} (h : LW (y :: v)) : 5 ^ v.length ≤ rk (y :: v) := by
  have h1 := h y List.mem_cons_self
  rw [rk_cons]
  have h2 : 1 * 5 ^ v.length ≤ (y.toNat - 96) * 5 ^ v.length := Nat.mul_le_mul_right _ (by omega)
  omega
theorem rk_lex : ∀ {u v : List UInt8}, LW u → LW v → u.length = v.length → u < v → rk u < rk v
  | [], [], _, _, _, h => absurd h (List.lt_irrefl _)
  | [], _ :: _, _, _, h, _ => by simp at h
  | _ :: _, [], _, _, h, _ => by simp at h
  | a :: u, b :: v, hu, hv, hl, h => by
    have hl2 : u.length = v.length := by simpa using hl
    have hu2 : LW u := fun z hz => hu z (List.mem_cons_of_mem _ hz)
    have hv2 : LW v := fun z hz => hv z (List.mem_cons_of_mem _ hz)
    have ha := hu a List.mem_cons_self
    have hb := hv b List.mem_cons_self
    rw [rk_cons, rk_cons, hl2]
    rcases List.cons_lt_cons_iff.1 h with h1 | ⟨rfl, h1⟩
    · have h2 := UInt8.lt_iff_toNat_lt.1 h1
      have h3 := rk_lt hu2
      rw [hl2] at h3
      have h4 : (a.toNat - 96 + 1) * 5 ^ v.length ≤ (b.toNat - 96) * 5 ^ v.length := Nat.mul_le_mul_right _ (by omega)
      rw [Nat.add_mul] at h4
      omega
    · have := rk_lex hu2 hv2 hl2 h1
      omega
theorem rk_less {u v : List UInt8} (hu : LW u) (hv : LW v) (h : ltW u v = true) : rk u < rk v := by
  unfold ltW at h
  rcases of_decide_eq_true h with h | ⟨h1, h2⟩
  · cases v with
    | nil => simp at h
    | cons y v =>
      have h1 := rk_lt hu
      have h2 := rk_ge hv
      have h3 : 5 ^ u.length ≤ 5 ^ v.length := Nat.pow_le_pow_right (by omega) (by simp at h; omega)
      omega
  · exact rk_lex hu hv h1 h2
theorem rk_swap {u x y v : List UInt8} (hx : LW x) (hy : LW y) (h : ltW y x = true) : rk (u ++ (y ++ v)) < rk (u ++ (x ++ v)) := by
  have hlen : y.length ≤ x.length := by
    unfold ltW at h
    rcases of_decide_eq_true h with h | ⟨h, _⟩ <;> omega
  have h1 := rk_less hy hx h
  rw [rk_app u (y ++ v), rk_app u (x ++ v), rk_app y v, rk_app x v, List.length_append, List.length_append, Nat.pow_add, Nat.pow_add]
  have h2 : 5 ^ y.length ≤ 5 ^ x.length := Nat.pow_le_pow_right (by omega) hlen
  have h3 : rk u * (5 ^ y.length * 5 ^ v.length) ≤ rk u * (5 ^ x.length * 5 ^ v.length) := Nat.mul_le_mul_left _ (Nat.mul_le_mul_right _ h2)
  have h4 : (rk y + 1) * 5 ^ v.length ≤ rk x * 5 ^ v.length := Nat.mul_le_mul_right _ h1
  have h5 : 1 ≤ 5 ^ v.length := Nat.one_le_pow _ _ (by omega)
  rw [Nat.add_mul, Nat.one_mul] at h4
  omega
theorem rk_top {v : List UInt8} (h : LW v) (hl : v.length ≤ 16) : rk v < 152587890625 := by
  have h1 := rk_lt h
  have h2 : 5 ^ v.length ≤ 5 ^ 16 := Nat.pow_le_pow_right (by omega) hl
  have h3 : (5 : Nat) ^ 16 = 152587890625 := by decide
  omega
/-- l lies in w at the place i -/
def preAt (w : ByteArray) (i : Nat) (l : ByteArray) : Bool := l.data.toList.isPrefixOf (w.data.toList.drop i)
theorem preAt_fits {w l : ByteArray} {i : Nat} (h : preAt w i l = true) (hl : 0 < l.size) : i + l.size ≤ w.size := by
  have h1 := (List.isPrefixOf_iff_prefix.1 h).length_le
  have h2 : l.data.toList.length = l.size := rfl
  have h3 : w.data.toList.length = w.size := rfl
  rw [List.length_drop] at h1
  omega
/-- the steps with a rule at a place (the first k rules) -/
def stAt (R : List RulD) (w : ByteArray) (i k : Nat) : List (Nat × Nat) := ((List.range k).filter fun r => preAt w i (nthR R r).1).map fun r => (r, i)
/-- the steps at the places before i, and with the rules before k at i -/
def stTo (R : List RulD) (w : ByteArray) (i k : Nat) : List (Nat × Nat) := ((List.range i).flatMap fun j => stAt R w j R.length) ++ stAt R w i k
/-- all steps, by place and then by rule -/
def stepsF (R : List RulD) (w : ByteArray) : List (Nat × Nat) := (List.range w.size).flatMap fun j => stAt R w j R.length
theorem stAt_zero (R : List RulD) (w : ByteArray) (i : Nat) : stAt R w i 0 = [] := rfl
theorem stTo_yes {R : List RulD} {w : ByteArray} {i k : Nat} (h : preAt w i (nthR R k).1 = true) : stTo R w i (k + 1) = stTo R w i k ++ [(k, i)] := by
  unfold stTo stAt
  rw [List.range_succ, List.filter_append, List.map_append, List.append_assoc]
  simp [h]
theorem stTo_no {R : List RulD} {w : ByteArray} {i k : Nat} (h : preAt w i (nthR R k).1 = false) : stTo R w i (k + 1) = stTo R w i k := by
  unfold stTo stAt
  rw [List.range_succ, List.filter_append, List.map_append]
  simp [h]
theorem stTo_next (R : List RulD) (w : ByteArray) (i : Nat) : stTo R w i R.length = stTo R w (i + 1) 0 := by
  unfold stTo
  rw [stAt_zero, List.append_nil, List.range_succ, List.flatMap_append]
  simp
theorem stTo_done (R : List RulD) (w : ByteArray) : stTo R w w.size 0 = stepsF R w := by
  unfold stTo stepsF
  rw [stAt_zero, List.append_nil]
theorem stAt_pre (R : List RulD) (w : ByteArray) (i : Nat) {j k : Nat} (h : j ≤ k) : stAt R w i j <+: stAt R w i k := by
  unfold stAt
  refine List.IsPrefix.map _ (List.IsPrefix.filter _ ?_)
  obtain ⟨d, rfl⟩ := Nat.exists_eq_add_of_le h
  rw [List.range_add]
  exact List.prefix_append _ _
theorem stTo_rows (R : List RulD) (w : ByteArray) {i j : Nat} (h : i ≤ j) : stTo R w i 0 <+: stTo R w j 0 := by
  unfold stTo
  rw [stAt_zero, stAt_zero, List.append_nil, List.append_nil]
  obtain ⟨d, rfl⟩ := Nat.exists_eq_add_of_le h
  rw [List.range_add, List.flatMap_append]
  exact List.prefix_append _ _
theorem stTo_pre {R : List RulD} {w : ByteArray} {i k : Nat} (hi : i < w.size) (hk : k ≤ R.length) : stTo R w i k <+: stepsF R w := by
  rw [← stTo_done]
  refine List.IsPrefix.trans ?_ (stTo_rows R w (show i + 1 ≤ w.size from hi))
  rw [← stTo_next]
  unfold stTo
  exact List.prefix_append_right_inj _ |>.2 (stAt_pre R w i hk)
/-- the first step of all -/
theorem first_at {R : List RulD} {w : ByteArray} {i k : Nat} (hi : i < w.size) (hk : k < R.length) (h0 : stTo R w i k = []) (h : preAt w i (nthR R k).1 = true) : (stepsF R w).head? = some (k, i) := by
  have h1 := stTo_pre (R := R) (w := w) hi (show k + 1 ≤ R.length from hk)
  rw [stTo_yes h, h0] at h1
  obtain ⟨t, ht⟩ := h1
  rw [← ht]
  rfl
theorem mem_stepsF {R : List RulD} {w : ByteArray} {s : Nat × Nat} : s ∈ stepsF R w ↔ s.2 < w.size ∧ s.1 < R.length ∧ preAt w s.2 (nthR R s.1).1 = true := by
  unfold stepsF stAt
  simp only [List.mem_flatMap, List.mem_range, List.mem_map, List.mem_filter]
  constructor
  · rintro ⟨i, hi, r, ⟨hr, hp⟩, rfl⟩
    exact ⟨hi, hr, hp⟩
  · rintro ⟨h1, h2, h3⟩
    exact ⟨s.2, h1, s.1, ⟨h2, h3⟩, rfl⟩
theorem stepsF_len (R : List RulD) (w : ByteArray) : (stepsF R w).length ≤ w.size * R.length := by
  unfold stepsF
  rw [List.length_flatMap]
  have key : ∀ n, ((List.range n).map fun j => (stAt R w j R.length).length).sum ≤ n * R.length := fun n => by
    induction n with
    | zero => simp
    | succ n ih =>
      rw [List.range_succ, List.map_append, List.sum_append]
      have h1 : (stAt R w n R.length).length ≤ R.length := by
        unfold stAt
        rw [List.length_map]
        have := List.length_filter_le (fun r => preAt w n (nthR R r).1) (List.range R.length)
        simpa using this
      simp only [List.map_cons, List.map_nil, List.sum_cons, List.sum_nil, Nat.add_zero]
      rw [Nat.succ_mul]
      omega
  exact key w.size
/-- a part of a word replaced -/
def replF (w : ByteArray) (i l : Nat) (by_ : ByteArray) : ByteArray := w.extract 0 i ++ by_ ++ w.extract (i + l) w.size
theorem replF_size {w by_ : ByteArray} {i l : Nat} (h : i + l ≤ w.size) : (replF w i l by_).size = w.size - l + by_.size := by
  unfold replF
  simp only [ByteArray.size_append, ByteArray.size_extract]
  omega
theorem extract_lt (v : ByteArray) (i j : Nat) : (v.extract i j).data.toList = (v.data.toList.take j).drop i := by
  rw [ByteArray.data_extract, Array.toList_extract, List.extract_eq_take_drop, List.drop_take]
theorem replF_list (w : ByteArray) (i l : Nat) (by_ : ByteArray) : (replF w i l by_).data.toList = w.data.toList.take i ++ (by_.data.toList ++ w.data.toList.drop (i + l)) := by
  unfold replF
  rw [ByteArray.data_append, ByteArray.data_append, Array.toList_append, Array.toList_append, extract_lt, extract_lt, List.drop_zero, List.append_assoc]
  have h : w.data.toList.length = w.size := rfl
  rw [List.take_of_length_le (Nat.le_of_eq h)]
/-- the word behind a step -/
def applyF (R : List RulD) (w : ByteArray) (s : Nat × Nat) : ByteArray := replF w s.2 (nthR R s.1).1.size (nthR R s.1).2
theorem split_at {w l : ByteArray} {i : Nat} (h : preAt w i l = true) : w.data.toList = w.data.toList.take i ++ (l.data.toList ++ w.data.toList.drop (i + l.size)) := by
  obtain ⟨t, ht⟩ := List.isPrefixOf_iff_prefix.1 h
  have h2 : l.data.toList.length = l.size := rfl
  have h3 : w.data.toList.drop (i + l.size) = t := by
    rw [← List.drop_drop, ← ht, ← h2, List.drop_left]
  rw [h3, ht, List.take_append_drop]
/-- what a word is that a system takes -/
structure WdP (w : ByteArray) : Prop where
  len : w.size ≤ 16
  let4 : LW w.data.toList
theorem wdP_of {k : Int} {w : ByteArray} (h : wordOkB k w = true) : WdP w := by
  unfold wordOkB allB at h
  simp only [Bool.and_eq_true, List.all_eq_true, decide_eq_true_eq] at h
  refine ⟨h.2.1, fun y hy => ?_⟩
  have h1 := inB_bounds h.1
  have h2 := letB_true (h.2.2 y hy)
  omega
theorem lw_of {k : Int} {w : ByteArray} (h : wordOkB k w = true) : LW w.data.toList := (wdP_of h).let4
/-- a step of an ordered system makes a word less -/
theorem step_less {k : Int} {R : List RulD} (hs : sysP k R) {w : ByteArray} {s : Nat × Nat} (hm : s ∈ stepsF R w) : rk (applyF R w s).data.toList < rk w.data.toList := by
  obtain ⟨h1, h2, h3⟩ := mem_stepsF.1 hm
  have hr := nthR_mem h2
  have hp := hs.1.2 _ hr
  have hl := hs.2 _ hr
  unfold applyF
  rw [replF_list]
  conv => rhs; rw [split_at h3]
  exact rk_swap (lw_of hp.1.1.1) (lw_of hp.1.1.2) hl
theorem step_size {k : Int} {R : List RulD} (hs : sysP k R) {w : ByteArray} {s : Nat × Nat} (hm : s ∈ stepsF R w) : (applyF R w s).size ≤ w.size ∧ s.2 + (nthR R s.1).1.size ≤ w.size := by
  obtain ⟨h1, h2, h3⟩ := mem_stepsF.1 hm
  have hr := nthR_mem h2
  have hp := hs.1.2 _ hr
  have hl := hs.2 _ hr
  have hf := preAt_fits h3 (by have := hp.2; omega)
  have hle : (nthR R s.1).2.size ≤ (nthR R s.1).1.size := by
    unfold lessS ltW at hl
    have e1 : (blW (nthR R s.1).1).length = (nthR R s.1).1.size := rfl
    have e2 : (blW (nthR R s.1).2).length = (nthR R s.1).2.size := rfl
    rcases of_decide_eq_true hl with h | ⟨h, _⟩ <;> omega
  refine ⟨?_, hf⟩
  unfold applyF
  rw [replF_size hf]
  omega
/-- letters of the first k -/
def okLt (k : Int) (v : List UInt8) : Prop := ∀ y ∈ v, letB k y = true
theorem wordOk_iff {k : Int} {w : ByteArray} : wordOkB k w = true ↔ (1 ≤ k ∧ k ≤ 4) ∧ w.size ≤ 16 ∧ okLt k w.data.toList := by
  unfold wordOkB allB okLt
  rw [Bool.and_eq_true, Bool.and_eq_true, List.all_eq_true, decide_eq_true_eq]
  have h : inB k 1 4 = true ↔ 1 ≤ k ∧ k ≤ 4 := by simp [inB]
  rw [h]
theorem step_word {k : Int} {R : List RulD} (hs : sysP k R) {w : ByteArray} (hw : wordOkB k w = true) {s : Nat × Nat} (hm : s ∈ stepsF R w) : wordOkB k (applyF R w s) = true := by
  obtain ⟨h1, h2, h3⟩ := mem_stepsF.1 hm
  have hp := hs.1.2 _ (nthR_mem h2)
  obtain ⟨a1, a2, a3⟩ := wordOk_iff.1 hw
  obtain ⟨b1, b2, b3⟩ := wordOk_iff.1 hp.1.1.2
  refine wordOk_iff.2 ⟨a1, Nat.le_trans (step_size hs hm).1 a2, fun y hy => ?_⟩
  unfold applyF at hy
  rw [replF_list] at hy
  rcases List.mem_append.1 hy with hy | hy
  · exact a3 y ((List.take_sublist _ _).subset hy)
  rcases List.mem_append.1 hy with hy | hy
  · exact b3 y hy
  · exact a3 y ((List.drop_sublist _ _).subset hy)
/-- x is what the first steps lead to from w -/
inductive NormIs (R : List RulD) : ByteArray → ByteArray → Prop
  | done {w : ByteArray} : (stepsF R w).head? = none → NormIs R w w
  | step {w x : ByteArray} {s : Nat × Nat} : (stepsF R w).head? = some s → NormIs R (applyF R w s) x → NormIs R w x
theorem NormIs.uniq {R : List RulD} {w x y : ByteArray} (a : NormIs R w x) (b : NormIs R w y) : x = y := by
  induction a with
  | done h =>
    cases b with
    | done => rfl
    | step h' _ => rw [h] at h'; cases h'
  | step h _ ih =>
    cases b with
    | done h' => rw [h] at h'; cases h'
    | step h' b' =>
      rw [h] at h'
      cases h'
      exact ih b'
theorem head_mem {l : List (Nat × Nat)} {s : Nat × Nat} (h : l.head? = some s) : s ∈ l := by
  cases l with
  | nil => cases h
  | cons a l => cases h; exact List.mem_cons_self
theorem NormIs.ex {k : Int} {R : List RulD} (hs : sysP k R) : ∀ (n : Nat) (w : ByteArray), rk w.data.toList < n → wordOkB k w = true → ∃ x, NormIs R w x ∧ wordOkB k x = true
  | 0, w, h, _ => by omega
  | n + 1, w, h, hw => by
    cases hh : (stepsF R w).head? with
    | none => exact ⟨w, .done hh, hw⟩
    | some s =>
      have hm := head_mem hh
      have h1 := step_less hs hm
      obtain ⟨x, hx, hx2⟩ := NormIs.ex hs n (applyF R w s) (by omega) (step_word hs hw hm)
      exact ⟨x, .step hh hx, hx2⟩
theorem NormIs.word {k : Int} {R : List RulD} (hs : sysP k R) {w x : ByteArray} (h : NormIs R w x) (hw : wordOkB k w = true) : wordOkB k x = true := by
  obtain ⟨y, h1, h2⟩ := NormIs.ex hs _ w (Nat.lt_succ_self _) hw
  rw [h.uniq h1]; exact h2
end Go.Proofs.YtgoeadgpbidgiaaGreat
namespace Go.Proofs.YtgoeadgpbidgiaaGreat
open Go.RowKit
set_option linter.unusedVariables false
/-- the places of a part among the first j ones -/
def placeTo (w l : ByteArray) (j : Nat) : List Nat := (List.range j).filter fun i => preAt w i l
def placesF (w l : ByteArray) : List Nat := placeTo w l w.size
theorem placeTo_yes {w l : ByteArray} {j : Nat} (h : preAt w j l = true) : placeTo w l (j + 1) = placeTo w l j ++ [j] := by
  unfold placeTo; rw [List.range_succ, List.filter_append]; simp [h]
theorem placeTo_no {w l : ByteArray} {j : Nat} (h : preAt w j l = false) : placeTo w l (j + 1) = placeTo w l j := by
  unfold placeTo; rw [List.range_succ, List.filter_append]; simp [h]
theorem placeTo_len (w l : ByteArray) (j : Nat) : (placeTo w l j).length ≤ j := by
  unfold placeTo
  have := List.length_filter_le (fun i => preAt w i l) (List.range j)
  simpa using this
/-- beyond the last place where it fits there is none -/
theorem placeTo_end {w l : ByteArray} (hl : 0 < l.size) {j : Nat} (h : w.size < j + l.size) (hj : j ≤ w.size) : placeTo w l j = placesF w l := by
  unfold placesF placeTo
  obtain ⟨d, hd⟩ := Nat.exists_eq_add_of_le hj
  rw [hd, List.range_add, List.filter_append]
  have : (List.map (fun x => j + x) (List.range d)).filter (fun i => preAt w i l) = [] := by
    rw [List.filter_eq_nil_iff]
    intro i hi hp
    obtain ⟨x, _, rfl⟩ := List.mem_map.1 hi
    have := preAt_fits hp hl
    omega
  rw [this, List.append_nil]
theorem mem_places {w l : ByteArray} {i : Nat} : i ∈ placesF w l ↔ i < w.size ∧ preAt w i l = true := by
  unfold placesF placeTo
  rw [List.mem_filter, List.mem_range]
/-- the end of u of n letters is the beginning of v -/
def ovAt (u v : ByteArray) (n : Nat) : Bool := u.data.toList.drop (u.size - n) == v.data.toList.take n
/-- the overlaps of less than j letters -/
def overTo (u v : ByteArray) (j : Nat) : List Nat := (List.range j).filter fun n => decide (0 < n) && ovAt u v n
def overF (u v : ByteArray) : List Nat := overTo u v (min u.size v.size)
theorem overTo_yes {u v : ByteArray} {j : Nat} (h0 : 0 < j) (h : ovAt u v j = true) : overTo u v (j + 1) = overTo u v j ++ [j] := by
  unfold overTo; rw [List.range_succ, List.filter_append]; simp [h, h0]
theorem overTo_no {u v : ByteArray} {j : Nat} (h : ovAt u v j = false) : overTo u v (j + 1) = overTo u v j := by
  unfold overTo; rw [List.range_succ, List.filter_append]; simp [h]
theorem overTo_len (u v : ByteArray) (j : Nat) : (overTo u v j).length ≤ j := by
  unfold overTo
  have := List.length_filter_le (fun n => decide (0 < n) && ovAt u v n) (List.range j)
  simpa using this
theorem mem_over {u v : ByteArray} {n : Nat} : n ∈ overF u v ↔ (n < u.size ∧ n < v.size) ∧ 0 < n ∧ ovAt u v n = true := by
  unfold overF overTo
  rw [List.mem_filter, List.mem_range, Bool.and_eq_true, decide_eq_true_eq]
  constructor
  · rintro ⟨h1, h2, h3⟩; exact ⟨by omega, h2, h3⟩
  · rintro ⟨h1, h2, h3⟩; exact ⟨by omega, h2, h3⟩
/-- a pair: its word, its rules, the place of the second one -/
abbrev PairD := ByteArray × Nat × Nat × Nat
/-- one rule inside of another one -/
def inP (R : List RulD) (i j p : Nat) : PairD := ((nthR R i).1, i, j, p)
def inF (R : List RulD) (i j : Nat) : List PairD := if i = j then [] else (placesF (nthR R i).1 (nthR R j).1).map (inP R i j)
/-- the end of one the beginning of another one -/
def acP (R : List RulD) (i j n : Nat) : PairD := ((nthR R i).1 ++ (nthR R j).1.extract n (nthR R j).1.size, i, j, (nthR R i).1.size - n)
def acF (R : List RulD) (i j : Nat) : List PairD := (overF (nthR R i).1 (nthR R j).1).map (acP R i j)
/-- the pairs of a rule with the first j ones -/
def pairAt (R : List RulD) (i j : Nat) : List PairD := (List.range j).flatMap fun b => inF R i b ++ acF R i b
/-- the pairs of the first i rules, and of the rule i with the first j ones -/
def pairTo (R : List RulD) (i j : Nat) : List PairD := ((List.range i).flatMap fun a => pairAt R a R.length) ++ pairAt R i j
def pairsF (R : List RulD) : List PairD := (List.range R.length).flatMap fun a => pairAt R a R.length
theorem pairTo_step (R : List RulD) (i j : Nat) : pairTo R i (j + 1) = pairTo R i j ++ (inF R i j ++ acF R i j) := by
  unfold pairTo pairAt
  rw [List.range_succ, List.flatMap_append, List.append_assoc]
  simp
theorem pairTo_next (R : List RulD) (i : Nat) : pairTo R i R.length = pairTo R (i + 1) 0 := by
  unfold pairTo
  rw [List.range_succ, List.flatMap_append]
  simp [pairAt]
theorem pairTo_done (R : List RulD) : pairTo R R.length 0 = pairsF R := by
  unfold pairTo pairsF
  simp [pairAt]
theorem flat_len {α : Type} (f : Nat → List α) (c : Nat) (h : ∀ i, (f i).length ≤ c) : ∀ n, ((List.range n).flatMap f).length ≤ n * c
  | 0 => by simp
  | n + 1 => by
    have ih := flat_len f c h n
    have h1 := h n
    rw [List.range_succ, List.flatMap_append, List.length_append, Nat.succ_mul]
    simp only [List.flatMap_cons, List.flatMap_nil, List.append_nil]
    omega
theorem inF_len {R : List RulD} (h8 : ∀ r, (nthR R r).1.size ≤ 8) (i j : Nat) : (inF R i j).length ≤ 8 := by
  unfold inF
  split
  · simp
  · rw [List.length_map]
    exact Nat.le_trans (placeTo_len _ _ _) (h8 i)
theorem acF_len {R : List RulD} (h8 : ∀ r, (nthR R r).1.size ≤ 8) (i j : Nat) : (acF R i j).length ≤ 8 := by
  unfold acF
  rw [List.length_map]
  have h1 := overTo_len (nthR R i).1 (nthR R j).1 (min (nthR R i).1.size (nthR R j).1.size)
  have h2 := h8 i
  unfold overF
  omega
theorem pairAt_len {R : List RulD} (h8 : ∀ r, (nthR R r).1.size ≤ 8) (i j : Nat) : (pairAt R i j).length ≤ j * 16 :=
  flat_len _ 16 (fun b => by rw [List.length_append]; have := inF_len h8 i b; have := acF_len h8 i b; omega) j
theorem pairTo_len {R : List RulD} (h8 : ∀ r, (nthR R r).1.size ≤ 8) (hR : R.length ≤ 12) {i j : Nat} (hi : i ≤ 12) (hj : j ≤ 12) : (pairTo R i j).length ≤ 2496 := by
  unfold pairTo
  rw [List.length_append]
  have h1 := flat_len (fun a => pairAt R a R.length) 192 (fun a => by have := pairAt_len h8 a R.length; omega) i
  have h2 := pairAt_len h8 i j
  omega
/-- both steps of a pair can be made -/
structure PairOk (R : List RulD) (k : Int) (p : PairD) : Prop where
  one : (p.2.1, 0) ∈ stepsF R p.1
  two : (p.2.2.1, p.2.2.2) ∈ stepsF R p.1
  word : wordOkB k p.1 = true
theorem nthR_dflt {R : List RulD} {r : Nat} (h : ¬ r < R.length) : nthR R r = (⟨#[]⟩, ⟨#[]⟩) := by
  unfold nthR; rw [List.getD_eq_getElem?_getD, List.getElem?_eq_none (by omega)]; rfl
theorem left8 {k : Int} {R : List RulD} (hs : sysP k R) (r : Nat) : (nthR R r).1.size ≤ 8 := by
  by_cases h : r < R.length
  · exact (hs.1.2 _ (nthR_mem h)).1.2.1
  · rw [nthR_dflt h]; exact Nat.zero_le _
theorem preAt_zero (w : ByteArray) : preAt w 0 w = true := by
  unfold preAt; rw [List.drop_zero, List.isPrefixOf_iff_prefix]; exact List.prefix_refl _
theorem pairOk {k : Int} {R : List RulD} (hs : sysP k R) {p : PairD} (hp : p ∈ pairsF R) : PairOk R k p := by
  unfold pairsF pairAt at hp
  simp only [List.mem_flatMap, List.mem_range] at hp
  obtain ⟨i, hi, j, hj, hp⟩ := hp
  have ri := hs.1.2 _ (nthR_mem hi)
  have rj := hs.1.2 _ (nthR_mem hj)
  have wi := ri.1.1.1
  have wj := rj.1.1.1
  have zi := ri.2
  have zj := rj.2
  rcases List.mem_append.1 hp with hp | hp
  · unfold inF at hp
    split at hp
    · cases hp
    · obtain ⟨q, hq, rfl⟩ := List.mem_map.1 hp
      obtain ⟨h1, h2⟩ := mem_places.1 hq
      exact ⟨mem_stepsF.2 ⟨by show 0 < (nthR R i).1.size; omega, hi, preAt_zero _⟩, mem_stepsF.2 ⟨h1, hj, h2⟩, wi⟩
  · obtain ⟨n, hn, rfl⟩ := List.mem_map.1 hp
    obtain ⟨⟨h1, h2⟩, h3, h4⟩ := mem_over.1 hn
    have e1 : ((nthR R i).1 ++ (nthR R j).1.extract n (nthR R j).1.size).data.toList = (nthR R i).1.data.toList ++ (nthR R j).1.data.toList.drop n := by
      rw [ByteArray.data_append, Array.toList_append, extract_lt]
      have h : (nthR R j).1.data.toList.length = (nthR R j).1.size := rfl
      rw [List.take_of_length_le (Nat.le_of_eq h)]
    have e2 : ((nthR R i).1 ++ (nthR R j).1.extract n (nthR R j).1.size).size = (nthR R i).1.size + ((nthR R j).1.size - n) := by
      rw [ByteArray.size_append, ByteArray.size_extract]; omega
    have hli : (nthR R i).1.data.toList.length = (nthR R i).1.size := rfl
    unfold ovAt at h4
    rw [beq_iff_eq] at h4
    refine ⟨mem_stepsF.2 ⟨?_, hi, ?_⟩, mem_stepsF.2 ⟨?_, hj, ?_⟩, ?_⟩
    · show 0 < _
      show 0 < ((nthR R i).1 ++ (nthR R j).1.extract n (nthR R j).1.size).size
      rw [e2]; omega
    · show preAt ((nthR R i).1 ++ (nthR R j).1.extract n (nthR R j).1.size) 0 (nthR R i).1 = true
      unfold preAt
      rw [List.drop_zero, e1, List.isPrefixOf_iff_prefix]
      exact List.prefix_append _ _
    · show (nthR R i).1.size - n < ((nthR R i).1 ++ (nthR R j).1.extract n (nthR R j).1.size).size
      rw [e2]; omega
    · show preAt ((nthR R i).1 ++ (nthR R j).1.extract n (nthR R j).1.size) ((nthR R i).1.size - n) (nthR R j).1 = true
      unfold preAt
      rw [e1, List.isPrefixOf_iff_prefix, List.drop_append_of_le_length (by omega), h4, List.take_append_drop]
      exact List.prefix_refl _
    · obtain ⟨a1, a2, a3⟩ := wordOk_iff.1 wi
      obtain ⟨_, _, b3⟩ := wordOk_iff.1 wj
      refine wordOk_iff.2 ⟨a1, ?_, ?_⟩
      · show ((nthR R i).1 ++ (nthR R j).1.extract n (nthR R j).1.size).size ≤ 16
        have := ri.1.2.1; have := rj.1.2.1
        rw [e2]; omega
      · show okLt k ((nthR R i).1 ++ (nthR R j).1.extract n (nthR R j).1.size).data.toList
        rw [e1]
        intro y hy
        rcases List.mem_append.1 hy with hy | hy
        · exact a3 y hy
        · exact b3 y ((List.drop_sublist _ _).subset hy)
def leftP (R : List RulD) (p : PairD) : ByteArray := applyF R p.1 (p.2.1, 0)
def rightP (R : List RulD) (p : PairD) : ByteArray := applyF R p.1 (p.2.2.1, p.2.2.2)
/-- both sides of a pair have one normal form -/
def Joined (R : List RulD) (p : PairD) : Prop := ∃ x, NormIs R (leftP R p) x ∧ NormIs R (rightP R p) x
open Classical in
/-- the open ones among pairs -/
noncomputable def openL (R : List RulD) (l : List PairD) : List PairD := l.filter fun p => !decide (Joined R p)
noncomputable def openF (R : List RulD) : List PairD := openL R (pairsF R)
theorem openL_app (R : List RulD) (l m : List PairD) : openL R (l ++ m) = openL R l ++ openL R m := by unfold openL; rw [List.filter_append]
theorem openL_yes {R : List RulD} {p : PairD} (h : Joined R p) : openL R [p] = [] := by
  classical
  unfold openL
  simp [h]
theorem openL_no {R : List RulD} {p : PairD} (h : ¬ Joined R p) : openL R [p] = [p] := by
  classical
  unfold openL
  simp [h]
end Go.Proofs.YtgoeadgpbidgiaaGreat
namespace Go.Proofs.YtgoeadgpbidgiaaGreat
open Go.RowKit
set_option linter.unusedVariables false
/-- the cells of a list of structs -/
def cellsL {α : Type} (f : α → List Value) (l : List α) : List Value := l.flatMap f
theorem cellsL_app {α : Type} (f : α → List Value) (l m : List α) : cellsL f (l ++ m) = cellsL f l ++ cellsL f m := by simp [cellsL]
theorem cellsL_one {α : Type} (f : α → List Value) (x : α) : cellsL f [x] = f x := by simp [cellsL]
theorem cellsL_len {α : Type} {f : α → List Value} {m : Nat} (hf : ∀ x, (f x).length = m) : ∀ l : List α, (cellsL f l).length = l.length * m
  | [] => by simp [cellsL]
  | x :: l => by
    have ih := cellsL_len hf l
    unfold cellsL at *
    rw [List.flatMap_cons, List.length_append, hf, ih, List.length_cons, Nat.succ_mul]
    omega
theorem cellsL_at {α : Type} {f : α → List Value} {m : Nat} (hf : ∀ x, (f x).length = m) : ∀ (l : List α) (j : Nat) (hj : j < l.length) (i : Nat), i < m → (cellsL f l)[j * m + i]? = (f l[j])[i]?
  | [], j, hj, _, _ => by simp at hj
  | x :: l, 0, _, i, hi => by
    unfold cellsL
    rw [List.flatMap_cons, List.getElem?_append_left (by rw [hf]; omega)]
    simp
  | x :: l, j + 1, hj, i, hi => by
    have ih := cellsL_at hf l j (by simpa using hj) i hi
    unfold cellsL at *
    rw [List.flatMap_cons, List.getElem?_append_right (by rw [hf, Nat.succ_mul]; omega), hf]
    rw [show (j + 1) * m + i - m = j * m + i by rw [Nat.succ_mul]; omega, ih]
    rfl
/-- a row of structs -/
def RowsIn {α : Type} (f : α → List Value) (w : World) (a : Option Addr) (l : List α) : Prop := CellsIn w a (cellsL f l)
theorem RowsIn.later {α : Type} {f : α → List Value} {w w' : World} {a : Option Addr} {l : List α} (h : RowsIn f w a l) (hb : Below w.heap.size w w') : RowsIn f w' a l := CellsIn.later h hb
theorem owns_rows {α : Type} {f : α → List Value} {w : World} {base : Nat} {T : TypeId} {size : Nat} {a : Option Addr} {n m cap : Nat} {l : List α} (h : w.ownsRow base T size (.slice a m cap) n (cellsL f l)) : RowsIn f w a l := owns_cells h
theorem RowsIn.cell {α : Type} {f : α → List Value} {m : Nat} (hf : ∀ x, (f x).length = m) (hm : 0 < m) {w : World} {a : Option Addr} {l : List α} (h : RowsIn f w a l) {i : Nat} (hi : i < l.length) :
    ∃ b off, a = some ⟨b, off, none⟩ ∧ b < w.heap.size ∧ ∀ j (hj : j < l.length) c v, (f l[j])[c]? = some v → w.cell? ⟨b, off + j * m + c, none⟩ = some v := by
  have hlen := cellsL_len hf l
  rcases h with h | ⟨b, off, ha, hc⟩
  · rw [h, List.length_nil] at hlen
    have : l.length * m ≠ 0 := Nat.mul_ne_zero (by omega) (by omega)
    omega
  · have key : ∀ j (hj : j < l.length) c v, (f l[j])[c]? = some v → w.cell? ⟨b, off + j * m + c, none⟩ = some v := fun j hj c v hv => by
      have hcm : c < m := by rw [← hf l[j]]; exact (List.getElem?_eq_some_iff.1 hv).1
      have h1 := cellsL_at hf l j hj c hcm
      rw [hv] at h1
      obtain ⟨h2, h3⟩ := List.getElem?_eq_some_iff.1 h1
      have h4 := hc (j * m + c) h2
      rw [h3] at h4
      rw [Nat.add_assoc]
      exact h4
    refine ⟨b, off, ha, ?_, key⟩
    have h0 : 0 < (f l[i]).length := by rw [hf]; exact hm
    exact World.block_lt_of_cell? w _ (key i hi 0 (f l[i])[0] (List.getElem?_eq_getElem h0))
/-- the cells of a step -/
def stV (s : Nat × Nat) : List Value := [.int .i64 (s.1 : Nat), .int .i64 (s.2 : Nat)]
theorem stV_len (s : Nat × Nat) : (stV s).length = 2 := rfl
/-- the cells of a pair -/
def prV (p : ByteArray × Nat × Nat × Nat) : List Value := [.string p.1, .int .i64 (p.2.1 : Nat), .int .i64 0, .int .i64 (p.2.2.1 : Nat), .int .i64 (p.2.2.2 : Nat)]
theorem prV_len (p : ByteArray × Nat × Nat × Nat) : (prV p).length = 5 := rfl
/-- the cells of numbers -/
def nV (n : Nat) : List Value := [.int .i64 (n : Nat)]
theorem nV_len (n : Nat) : (nV n).length = 1 := rfl
end Go.Proofs.YtgoeadgpbidgiaaGreat
namespace Go.Proofs.YtgoeadgpbidgiaaGreat
open Go.RowKit
set_option linter.unusedVariables false
/-- a part of a word and a part of that length compared -/
theorem preAt_ext {w0 l : ByteArray} {i : Nat} : ((w0.extract i (i + l.size)).toList == l.toList) = preAt w0 i l := by
  have h2 : l.data.toList.length = l.size := rfl
  have key : (w0.extract i (i + l.size)).toList = (w0.data.toList.drop i).take l.data.toList.length := by
    rw [ByteArray.toList_eq, extract_lt, List.drop_take, h2, Nat.add_sub_cancel_left]
  rw [key, ByteArray.toList_eq]
  unfold preAt
  cases h : l.data.toList.isPrefixOf (w0.data.toList.drop i)
  · rw [beq_eq_false_iff_ne]
    intro e
    have h3 : l.data.toList <+: w0.data.toList.drop i := by rw [← e]; exact List.take_prefix _ _
    rw [List.isPrefixOf_iff_prefix.2 h3] at h
    cases h
  · rw [beq_iff_eq]
    exact (List.prefix_iff_eq_take.1 (List.isPrefixOf_iff_prefix.1 h)).symm
theorem preAt_hp {w0 l : ByteArray} {i : Nat} : Lib.hasPrefix (w0.extract i w0.size).data.toList l.data.toList = preAt w0 i l := by
  unfold Lib.hasPrefix preAt
  rw [extract_lt]
  have h : w0.data.toList.length = w0.size := rfl
  rw [List.take_of_length_le (Nat.le_of_eq h)]
theorem ovAt_ext {u v : ByteArray} {n : Nat} : ((u.extract (u.size - n) u.size).toList == (v.extract 0 n).toList) = ovAt u v n := by
  unfold ovAt
  rw [ByteArray.toList_eq, ByteArray.toList_eq, extract_lt, extract_lt, List.drop_zero]
  have h : u.data.toList.length = u.size := rfl
  rw [List.take_of_length_le (Nat.le_of_eq h)]
theorem cells_nV (l : List Nat) (j : Nat) : cellsL nV (l ++ [j]) = cellsL nV l ++ [.int .i64 (j : Nat)] := by rw [cellsL_app, cellsL_one]; rfl
set_option maxHeartbeats 400000 in
theorem implReplaceAt_ok (w0 by_ : ByteArray) (i l : Nat) (w : World) (h1 : i + l ≤ w0.size) (h2 : w0.size - l + by_.size ≤ 16) (hz : w0.size ≤ 1000) (hy : by_.size ≤ 1000) :
    Calls Tryz.prog 73 #[.string w0, .int .i64 (i : Nat), .int .i64 (l : Nat), .string by_] w fun e w' => e = .returned (.tuple #[.string (replF w0 i l by_), .bool true]) ∧ Below w.heap.size w w' := by
  have HF : Hid (∀ W, Below w.heap.size w W → Ending.returned (.tuple #[.string (w0.extract 0 i ++ by_ ++ w0.extract (i + l) w0.size), .bool true]) = .returned (.tuple #[.string (replF w0 i l by_), .bool true]) ∧ Below w.heap.size w W) := Lib.hid (fun W h => ⟨rfl, h⟩)
  have a1 : (w0.extract 0 i).size = i := by rw [ByteArray.size_extract]; omega
  have a2 : (w0.extract (i + l) w0.size).size = w0.size - (i + l) := by rw [ByteArray.size_extract]; omega
  have a3 : ¬ 9223372036854775807 < (w0.extract 0 i).size + by_.size := by omega
  have a4 : ¬ 9223372036854775807 < (w0.extract 0 i).size + by_.size + (w0.extract (i + l) w0.size).size := by omega
  have g1 : ¬ (i : Int) < 0 := by omega
  have g2 : ¬ (l : Int) < 0 := by omega
  have g3 : ¬ (w0.size : Int) < (i : Int) := by omega
  have g4 : ¬ (w0.size : Int) - (i : Int) < (l : Int) := by omega
  have g5 : ¬ (16 : Int) < (w0.size : Int) - (l : Int) + (by_.size : Int) := by omega
  have s1 : (i : Int) + (l : Int) ≤ (w0.size : Int) := by omega
  have s2 : i + l ≤ w0.size := h1
  have s3 : i ≤ w0.size := by omega
  clear h2
  go_enter Tryz.func73, Tryz.ntmps73
  go_wp2_with fail
  go_quiet (fail)
  go_wp2_with fail
  go_ret2
  exact HF.out _ (below_drewN (Below.refl _ _) _)
set_option maxHeartbeats 400000 in
theorem specReplaceAt_ok (w0 by_ : ByteArray) (i l : Nat) (w : World) (h1 : i + l ≤ w0.size) (h2 : w0.size - l + by_.size ≤ 16) (hz : w0.size ≤ 1000) (hy : by_.size ≤ 1000) :
    Calls Tryz.prog 120 #[.string w0, .int .i64 (i : Nat), .int .i64 (l : Nat), .string by_] w fun e w' => e = .returned (.tuple #[.string (replF w0 i l by_), .bool true]) ∧ Below w.heap.size w w' := by
  have HF : Hid (∀ W, Below w.heap.size w W → Ending.returned (.tuple #[.string (w0.extract 0 i ++ by_ ++ w0.extract (i + l) w0.size), .bool true]) = .returned (.tuple #[.string (replF w0 i l by_), .bool true]) ∧ Below w.heap.size w W) := Lib.hid (fun W h => ⟨rfl, h⟩)
  have a1 : (w0.extract 0 i).size = i := by rw [ByteArray.size_extract]; omega
  have a2 : (w0.extract (i + l) w0.size).size = w0.size - (i + l) := by rw [ByteArray.size_extract]; omega
  have a3 : ¬ 9223372036854775807 < (w0.extract 0 i).size + by_.size := by omega
  have a4 : ¬ 9223372036854775807 < (w0.extract 0 i).size + by_.size + (w0.extract (i + l) w0.size).size := by omega
  have g1 : ¬ (i : Int) < 0 := by omega
  have g2 : ¬ (l : Int) < 0 := by omega
  have g3 : ¬ (w0.size : Int) < (i : Int) := by omega
  have g4 : ¬ (w0.size : Int) - (i : Int) < (l : Int) := by omega
  have g5 : ¬ (16 : Int) < (w0.size : Int) - (l : Int) + (by_.size : Int) := by omega
  have s1 : (i : Int) + (l : Int) ≤ (w0.size : Int) := by omega
  have s2 : i + l ≤ w0.size := h1
  have s3 : i ≤ w0.size := by omega
  clear h2
  go_enter Tryz.func120, Tryz.ntmps120
  go_wp2_with fail
  go_quiet (fail)
  go_wp2_with fail
  go_ret2
  exact HF.out _ (below_drewN (Below.refl _ _) _)
set_option maxRecDepth 20000 in
set_option maxHeartbeats 1000000 in
theorem specPlacesOf_any (w0 l : ByteArray) (w : World) (hl : 0 < l.size) (hz : w0.size ≤ 1000) (hy : l.size ≤ 1000) :
    Calls Tryz.prog 113 #[.string w0, .string l] w (RetSl 3 1 (placesF w0 l).length (cellsL nV (placesF w0 l)) w) := by
  obtain ⟨p1, p2⟩ := full_facts (x := l) (by omega)
  have hb0 := alloc_belowS w (.cells #[] 3)
  have HB0 : Hid (Bld 3 1 w (w.alloc (.cells #[] 3)) (.slice (some ⟨w.heap.size, 0, none⟩) 0 0) (placeTo w0 l 0).length (cellsL nV (placeTo w0 l 0))) := Lib.hid (Bld.empty 3 1 w)
  have HEND := Lib.hid (fun j => placeTo_end (w := w0) (l := l) hl (j := j))
  clear hb0
  go_enter Tryz.func113, Tryz.ntmps113
  go_wp2_with fail
  go_loopw [5, 6] (fun vo vi wr => ∃ j : Nat, j ≤ w0.size ∧ vi = .int .i64 (j : Nat) ∧ Bld 3 1 w wr vo (placeTo w0 l j).length (cellsL nV (placeTo w0 l j))) (fun _ vi _ => w0.size - (intOf vi).toNat)
  case atStart => exact ⟨0, Nat.zero_le _, rfl, HB0.out⟩
  case round =>
    clear HB0
    obtain ⟨j, hj, rfl, hbd⟩ := hrel
    obtain ⟨ao, co, rfl⟩ := owns_form hbd.1
    have HB := Lib.hid hbd
    clear hbd
    have hlen := placeTo_len w0 l j
    by_cases hlt : j + l.size ≤ w0.size
    · have h1 : j + l.size ≤ w0.size ∨ w0.size < j + l.size := by omega
      have HEX := Lib.hid (preAt_ext (w0 := w0) (l := l) (i := j))
      have HY := Lib.hid (fun h => placeTo_yes (w := w0) (l := l) (j := j) h)
      have HN := Lib.hid (fun h => placeTo_no (w := w0) (l := l) (j := j) h)
      clear h1
      cases hp : preAt w0 j l
      · have hn := HN.out hp
        have he := HEX.out.trans hp
        have s1 : (j : Int) + (l.size : Int) ≤ (w0.size : Int) := by omega
        have s2 : j + l.size ≤ w0.size := hlt
        clear hp
        generalize placeTo w0 l j = X at *
        have HNX := Lib.hid hn
        clear hn
        go_wp2_with fail
        go_roundw
        case rel => exact ⟨j + 1, by omega, by go_num, by rw [HNX.out]; exact HB.out⟩
        case measure => simp [intOf]; omega
      · have hn := HY.out hp
        have he := HEX.out.trans hp
        have s1 : (j : Int) + (l.size : Int) ≤ (w0.size : Int) := by omega
        have s2 : j + l.size ≤ w0.size := hlt
        clear hp
        generalize placeTo w0 l j = X at *
        have HNX := Lib.hid hn
        clear hn
        go_wp2_with (at_builtin; refine wpList_app1 rfl _ _ rfl Tryz.underlying29 Tryz.infoInt rfl (by decide) rfl HB.out rfl ?c1 ?c2 ?c3 ?c4 ?c5)
        case c2 => intro u hu; simp at hu; rw [hu]; rfl
        case c3 => unfold maxLen; omega
        case c4 => omega
        case c1 => rfl
        intro v4 w4 hb4
        have HB4 : Hid (Bld 3 1 w w4 v4 (placeTo w0 l (j + 1)).length (cellsL nV (placeTo w0 l (j + 1)))) := Lib.hid (by
          rw [HNX.out, List.length_append, cells_nV]; exact hb4)
        obtain ⟨a4, c4, hv4⟩ := owns_form HB4.out.1
        subst hv4
        clear hb4
        go_wp2_with fail
        go_roundw
        case rel => exact ⟨j + 1, by omega, by go_num, HB4.out⟩
        case measure => simp [intOf]; omega
    · have hd := HEND.out j (by omega) hj
      have F : Hid (RetSl 3 1 (placesF w0 l).length (cellsL nV (placesF w0 l)) w (.returned (.slice ao (placeTo w0 l j).length co)) wr) := Lib.hid (by
        rw [hd] at HB ⊢
        exact HB.out.ret)
      clear hd
      go_wp2_with fail
      go_ret
      exact F.out
theorem overTo_end {u v : ByteArray} {j : Nat} (h0 : 1 ≤ j) (h1 : j ≤ min u.size v.size ∨ j = 1) (h2 : ¬ j < min u.size v.size) : overTo u v j = overF u v := by
  unfold overF
  rcases h1 with h1 | rfl
  · rw [show j = min u.size v.size by omega]
  · have h3 : min u.size v.size = 0 ∨ min u.size v.size = 1 := by omega
    rcases h3 with h3 | h3
    · rw [h3]; rfl
    · rw [h3]
set_option maxRecDepth 20000 in
set_option maxHeartbeats 1000000 in
theorem specOverlapsOf_any (u v : ByteArray) (w : World) (hz : u.size ≤ 1000) (hy : v.size ≤ 1000) :
    Calls Tryz.prog 114 #[.string u, .string v] w (RetSl 3 1 (overF u v).length (cellsL nV (overF u v)) w) := by
  have HB0 : Hid (Bld 3 1 w (w.alloc (.cells #[] 3)) (.slice (some ⟨w.heap.size, 0, none⟩) 0 0) (overTo u v 1).length (cellsL nV (overTo u v 1))) := Lib.hid (Bld.empty 3 1 w)
  have HEND := Lib.hid (fun j => overTo_end (u := u) (v := v) (j := j))
  go_enter Tryz.func114, Tryz.ntmps114
  go_wp2_with fail
  go_loopw [5, 6] (fun vo vi wr => ∃ j : Nat, (1 ≤ j ∧ j ≤ 1001) ∧ (j ≤ min u.size v.size ∨ j = 1) ∧ vi = .int .i64 (j : Nat) ∧ Bld 3 1 w wr vo (overTo u v j).length (cellsL nV (overTo u v j))) (fun _ vi _ => 1002 - (intOf vi).toNat)
  case atStart => exact ⟨1, ⟨Nat.le_refl _, by omega⟩, .inr rfl, rfl, HB0.out⟩
  case round =>
    clear HB0
    obtain ⟨j, ⟨hj0, hj1⟩, hj2, rfl, hbd⟩ := hrel
    obtain ⟨ao, co, rfl⟩ := owns_form hbd.1
    have HB := Lib.hid hbd
    clear hbd
    have hlen := overTo_len u v j
    by_cases hlt : j < min u.size v.size
    · have HEX := Lib.hid (ovAt_ext (u := u) (v := v) (n := j))
      have HY := Lib.hid (fun h => overTo_yes (u := u) (v := v) (j := j) (by omega) h)
      have HN := Lib.hid (fun h => overTo_no (u := u) (v := v) (j := j) h)
      have hlu : j < u.size := by omega
      have hlv : j < v.size := by omega
      have hw : IntKind.i64.wrap ((u.size : Int) - (j : Int)) = ((u.size - j : Nat) : Int) := by rw [IntWalk.i64_in _ (by omega)]; omega
      have s1 : ((u.size - j : Nat) : Int) ≤ (u.size : Int) := by omega
      have s2 : u.size - j ≤ u.size := by omega
      have s3 : (j : Int) ≤ (v.size : Int) := by omega
      have s4 : j ≤ v.size := by omega
      have s5 : (j : Int) < (u.size : Int) := by omega
      have s6 : (j : Int) < (v.size : Int) := by omega
      cases hp : ovAt u v j
      · have HNX := Lib.hid (HN.out hp)
        have he := HEX.out.trans hp
        clear hp HY HN
        generalize overTo u v j = X at *
        go_wp2_with fail
        go_quiet (fail)
        have HB2 := Lib.hid (HB.out.later (below_drewN (Below.refl _ _) nq))
        go_wp2_with fail
        go_roundw
        case rel => exact ⟨j + 1, ⟨by omega, by omega⟩, .inl (by omega), by go_num, by rw [HNX.out]; exact HB2.out⟩
        case measure => simp [intOf]; omega
      · have HNX := Lib.hid (HY.out hp)
        have he := HEX.out.trans hp
        clear hp HY HN
        generalize overTo u v j = X at *
        go_wp2_with fail
        go_quiet (fail)
        have HB2 := Lib.hid (HB.out.later (below_drewN (Below.refl _ _) nq))
        go_wp2_with (at_builtin; refine wpList_app1 rfl _ _ rfl Tryz.underlying29 Tryz.infoInt rfl (by decide) rfl HB2.out rfl ?c1 ?c2 ?c3 ?c4 ?c5)
        case c2 => intro x hx; simp at hx; rw [hx]; rfl
        case c3 => unfold maxLen; omega
        case c4 => omega
        case c1 => rfl
        intro v4 w4 hb4
        have HB4 : Hid (Bld 3 1 w w4 v4 (overTo u v (j + 1)).length (cellsL nV (overTo u v (j + 1)))) := Lib.hid (by
          rw [HNX.out, List.length_append, cells_nV]; exact hb4)
        obtain ⟨a4, c4, hv4⟩ := owns_form HB4.out.1
        subst hv4
        clear hb4
        go_wp2_with fail
        go_roundw
        case rel => exact ⟨j + 1, ⟨by omega, by omega⟩, .inl (by omega), by go_num, HB4.out⟩
        case measure => simp [intOf]; omega
    · have hd := HEND.out j hj0 hj2 hlt
      have F : Hid (RetSl 3 1 (overF u v).length (cellsL nV (overF u v)) w (.returned (.slice ao (overTo u v j).length co)) wr) := Lib.hid (by
        rw [hd] at HB ⊢
        exact HB.out.ret)
      clear hd
      by_cases hu : j < u.size
      · have s5 : (j : Int) < (u.size : Int) := by omega
        have s6 : ¬ (j : Int) < (v.size : Int) := by omega
        go_wp2_with fail
        go_ret
        exact F.out
      · have s5 : ¬ (j : Int) < (u.size : Int) := by omega
        go_wp2_with fail
        go_ret
        exact F.out
end Go.Proofs.YtgoeadgpbidgiaaGreat
