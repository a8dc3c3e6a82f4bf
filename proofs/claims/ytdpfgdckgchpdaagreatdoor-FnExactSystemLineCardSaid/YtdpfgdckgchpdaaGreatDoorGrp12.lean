/-
  Steps of a rewriting system, and normal forms, as plain data.
-/
import Derived.Test.YtdpfgdckgchpdaaGreatDoorGrp11
namespace Go.Proofs.YtdpfgdckgchpdaaGreatDoor
open Go.RowKit
set_option linter.unusedVariables false
/-- the letters a .. d alone -/
def LW (v : List UInt8) : Prop := ∀ y ∈ v, 97 ≤ y.toNat ∧ y.toNat ≤ 100
theorem LW.app {u v : List UInt8} (hu : LW u) (hv : LW v) : LW (u ++ v) := fun y hy => by
  rcases List.mem_append.1 hy with h | h
  · exact hu y h
  · exact hv y h
theorem LW.sub {u v : List UInt8} (h : LW v) (hs : u.Sublist v) : LW u := fun y hy => h y (hs.subset hy)
/-- the number of a word: its letters as the digits 1 to 4 in base 5 -/
def rkL : List UInt8 → Nat → Nat
  | [], a => a
  | y :: v, a => rkL v (a * 5 + (y.toNat - 96))
def rk (v : List UInt8) : Nat := rkL v 0
theorem rkL_add : ∀ (v : List UInt8) (a : Nat), rkL v a = a * 5 ^ v.length + rk v
  | [], a => by simp [rkL, rk]
  | y :: v, a => by
    unfold rk
    simp only [rkL]
    rw [rkL_add v, rkL_add v (0 * 5 + _)]
    rw [List.length_cons, Nat.pow_succ, Nat.add_mul, Nat.zero_mul, Nat.zero_add, Nat.mul_comm (5 ^ v.length) 5, ← Nat.mul_assoc]
    omega
theorem rk_app (u v : List UInt8) : rk (u ++ v) = rk u * 5 ^ v.length + rk v := by
  have h : ∀ (u : List UInt8) (a : Nat), rkL (u ++ v) a = rkL v (rkL u a) := fun u => by
    induction u with
    | nil => intro a; rfl
    | cons y u ih => intro a; exact ih _
  unfold rk
  rw [h, rkL_add]
  rfl
theorem rk_cons (y : UInt8) (v : List UInt8) : rk (y :: v) = (y.toNat - 96) * 5 ^ v.length + rk v := by
  have h := rk_app [y] v
  have e : rk [y] = y.toNat - 96 := by simp [rk, rkL]
  rw [e] at h
  exact h
theorem rk_lt : ∀ {v : List UInt8}, LW v → rk v < 5 ^ v.length
  | [], _ => by simp [rk, rkL]
  | y :: v, h => by
    have ih := rk_lt (v := v) (fun z hz => h z (List.mem_cons_of_mem _ hz))
    have h1 := h y List.mem_cons_self
    rw [rk_cons, List.length_cons, Nat.pow_succ]
    have h2 : (y.toNat - 96) * 5 ^ v.length ≤ 4 * 5 ^ v.length := Nat.mul_le_mul_right _ (by omega)
    omega
theorem rk_ge {y : UInt8} {v : List UInt8} (h : LW (y :: v)) : 5 ^ v.length ≤ rk (y :: v) := by
  have h1 := h y List.mem_cons_self
  rw [rk_cons]
  have h2 : 1 * 5 ^ v.length ≤ (y.toNat - 96) * 5 ^ v.length := Nat.mul_le_mul_right _ (by omega)
  omega
theorem rk_lex : ∀ {u v : List UInt8}, LW u → LW v → u.length = v.length → u < v → rk u < rk v
  | [], [], _, _, _, h => absurd h (List.lt_irrefl _)
  | [], _ :: _, _, _, h, _ => by simp at h
  | _ :: _, [], _, _, h, _ => by simp at h
  | a :: u, b :: v, hu, hv, hl, h => by
    have hl2 : u.length = v.length := by simpa using hl
    have hu2 : LW u := fun z hz => hu z (List.mem_cons_of_mem _ hz)
    have hv2 : LW v := fun z hz => hv z (List.mem_cons_of_mem _ hz)
    have ha := hu a List.mem_cons_self
    have hb := hv b List.mem_cons_self
    rw [rk_cons, rk_cons, hl2]
    rcases List.cons_lt_cons_iff.1 h with h1 | ⟨rfl, h1⟩
    · have h2 := UInt8.lt_iff_toNat_lt.1 h1
      have h3 := rk_lt hu2
      rw [hl2] at h3
      have h4 : (a.toNat - 96 + 1) * 5 ^ v.length ≤ (b.toNat - 96) * 5 ^ v.length := Nat.mul_le_mul_right _ (by omega)
      rw [Nat.add_mul] at h4
      omega
    · have := rk_lex hu2 hv2 hl2 h1
      omega
theorem rk_less {u v : List UInt8} (hu : LW u) (hv : LW v) (h : ltW u v = true) : rk u < rk v := by
  unfold ltW at h
  rcases of_decide_eq_true h with h | ⟨h1, h2⟩
  · cases v with
    | nil => simp at h
    | cons y v =>
      have h1 := rk_lt hu
      have h2 := rk_ge hv
      have h3 : 5 ^ u.length ≤ 5 ^ v.length := Nat.pow_le_pow_right (by omega) (by simp at h; omega)
      omega
  · exact rk_lex hu hv h1 h2
theorem rk_swap {u x y v : List UInt8} (hx : LW x) (hy : LW y) (h : ltW y x = true) : rk (u ++ (y ++ v)) < rk (u ++ (x ++ v)) := by
  have hlen : y.length ≤ x.length := by
    unfold ltW at h
    rcases of_decide_eq_true h with h | ⟨h, _⟩ <;> omega
  have h1 := rk_less hy hx h
  rw [rk_app u (y ++ v), rk_app u (x ++ v), rk_app y v, rk_app x v, List.length_append, List.length_append, Nat.pow_add, Nat.pow_add]
  have h2 : 5 ^ y.length ≤ 5 ^ x.length := Nat.pow_le_pow_right (by omega) hlen
  have h3 : rk u * (5 ^ y.length * 5 ^ v.length) ≤ rk u * (5 ^ x.length * 5 ^ v.length) := Nat.mul_le_mul_left _ (Nat.mul_le_mul_right _ h2)
  have h4 : (rk y + 1) * 5 ^ v.length ≤ rk x * 5 ^ v.length := Nat.mul_le_mul_right _ h1
  have h5 : 1 ≤ 5 ^ v.length := Nat.one_le_pow _ _ (by omega)
  rw [Nat.add_mul, Nat.one_mul] at h4
  omega
theorem rk_top {v : List UInt8} (h : LW v) (hl : v.length ≤ 16) : rk v < 152587890625 := by
  have h1 := rk_lt h
  have h2 : 5 ^ v.length ≤ 5 ^ 16 := Nat.pow_le_pow_right (by omega) hl
  have h3 : (5 : Nat) ^ 16 = 152587890625 := by decide
  omega
/-- l lies in w at the place i -/
def preAt (w : ByteArray) (i : Nat) (l : ByteArray) : Bool := l.data.toList.isPrefixOf (w.data.toList.drop i)
theorem preAt_fits {w l : ByteArray} {i : Nat} (h : preAt w i l = true) (hl : 0 < l.size) : i + l.size ≤ w.size := by
  have h1 := (List.isPrefixOf_iff_prefix.1 h).length_le
  have h2 : l.data.toList.length = l.size := rfl
  have h3 : w.data.toList.length = w.size := rfl
  rw [List.length_drop] at h1
  omega
/-- the steps with a rule at a place (the first k rules) -/
def stAt (R : List RulD) (w : ByteArray) (i k : Nat) : List (Nat × Nat) := ((List.range k).filter fun r => preAt w i (nthR R r).1).map fun r => (r, i)
/-- the steps at the places before i, and with the rules before k at i -/
def stTo (R : List RulD) (w : ByteArray) (i k : Nat) : List (Nat × Nat) := ((List.range i).flatMap fun j => stAt R w j R.length) ++ stAt R w i k
/-- all steps, by place and then by rule -/
def stepsF (R : List RulD) (w : ByteArray) : List (Nat × Nat) := (List.range w.size).flatMap fun j => stAt R w j R.length
theorem stAt_zero (R : List RulD) (w : ByteArray) (i : Nat) : stAt R w i 0 = [] := rfl
theorem stTo_start (R : List RulD) (w : ByteArray) : stTo R w 0 0 = [] := rfl
theorem stTo_yes {R : List RulD} {w : ByteArray} {i k : Nat} (h : preAt w i (nthR R k).1 = true) : stTo R w i (k + 1) = stTo R w i k ++ [(k, i)] := by
  unfold stTo stAt
  rw [List.range_succ, List.filter_append, List.map_append, List.append_assoc]
  simp [h]
theorem stTo_no {R : List RulD} {w : ByteArray} {i k : Nat} (h : preAt w i (nthR R k).1 = false) : stTo R w i (k + 1) = stTo R w i k := by
  unfold stTo stAt
  rw [List.range_succ, List.filter_append, List.map_append]
  simp [h]
theorem stTo_next (R : List RulD) (w : ByteArray) (i : Nat) : stTo R w i R.length = stTo R w (i + 1) 0 := by
  unfold stTo
  rw [stAt_zero, List.append_nil, List.range_succ, List.flatMap_append]
  simp
theorem stTo_done (R : List RulD) (w : ByteArray) : stTo R w w.size 0 = stepsF R w := by
  unfold stTo stepsF
  rw [stAt_zero, List.append_nil]
theorem stAt_pre (R : List RulD) (w : ByteArray) (i : Nat) {j k : Nat} (h : j ≤ k) : stAt R w i j <+: stAt R w i k := by
  unfold stAt
  refine List.IsPrefix.map _ (List.IsPrefix.filter _ ?_)
  obtain ⟨d, rfl⟩ := Nat.exists_eq_add_of_le h
  rw [List.range_add]
  exact List.prefix_append _ _
theorem stTo_rows (R : List RulD) (w : ByteArray) {i j : Nat} (h : i ≤ j) : stTo R w i 0 <+: stTo R w j 0 := by
  unfold stTo
  rw [stAt_zero, stAt_zero, List.append_nil, List.append_nil]
  obtain ⟨d, rfl⟩ := Nat.exists_eq_add_of_le h
  rw [List.range_add, List.flatMap_append]
  exact List.prefix_append _ _
theorem stTo_pre {R : List RulD} {w : ByteArray} {i k : Nat} (hi : i < w.size) (hk : k ≤ R.length) : stTo R w i k <+: stepsF R w := by
  rw [← stTo_done]
  refine List.IsPrefix.trans ?_ (stTo_rows R w (show i + 1 ≤ w.size from hi))
  rw [← stTo_next]
  unfold stTo
  exact List.prefix_append_right_inj _ |>.2 (stAt_pre R w i hk)
/-- the first step of all -/
theorem first_at {R : List RulD} {w : ByteArray} {i k : Nat} (hi : i < w.size) (hk : k < R.length) (h0 : stTo R w i k = []) (h : preAt w i (nthR R k).1 = true) : (stepsF R w).head? = some (k, i) := by
  have h1 := stTo_pre (R := R) (w := w) hi (show k + 1 ≤ R.length from hk)
  rw [stTo_yes h, h0] at h1
  obtain ⟨t, ht⟩ := h1
  rw [← ht]
  rfl
theorem mem_stepsF {R : List RulD} {w : ByteArray} {s : Nat × Nat} : s ∈ stepsF R w ↔ s.2 < w.size ∧ s.1 < R.length ∧ preAt w s.2 (nthR R s.1).1 = true := by
  unfold stepsF stAt
  simp only [List.mem_flatMap, List.mem_range, List.mem_map, List.mem_filter]
  constructor
  · rintro ⟨i, hi, r, ⟨hr, hp⟩, rfl⟩
    exact ⟨hi, hr, hp⟩
  · rintro ⟨h1, h2, h3⟩
    exact ⟨s.2, h1, s.1, ⟨h2, h3⟩, rfl⟩
theorem stepsF_len (R : List RulD) (w : ByteArray) : (stepsF R w).length ≤ w.size * R.length := by
  unfold stepsF
  rw [List.length_flatMap]
  have key : ∀ n, ((List.range n).map fun j => (stAt R w j R.length).length).sum ≤ n * R.length := fun n => by
    induction n with
    | zero => simp
    | succ n ih =>
      rw [List.range_succ, List.map_append, List.sum_append]
      have h1 : (stAt R w n R.length).length ≤ R.length := by
        unfold stAt
        rw [List.length_map]
        have := List.length_filter_le (fun r => preAt w n (nthR R r).1) (List.range R.length)
        simpa using this
      simp only [List.map_cons, List.map_nil, List.sum_cons, List.sum_nil, Nat.add_zero]
      rw [Nat.succ_mul]
      omega
  exact key w.size
/-- a part of a word replaced -/
def replF (w : ByteArray) (i l : Nat) (by_ : ByteArray) : ByteArray := w.extract 0 i ++ by_ ++ w.extract (i + l) w.size
/-- may it be replaced? -/
def ReplOk (w : ByteArray) (i l : Nat) (by_ : ByteArray) : Prop := i + l ≤ w.size ∧ w.size - l + by_.size ≤ 16
theorem replF_size {w by_ : ByteArray} {i l : Nat} (h : i + l ≤ w.size) : (replF w i l by_).size = w.size - l + by_.size := by
  unfold replF
  simp only [ByteArray.size_append, ByteArray.size_extract]
  omega
theorem extract_lt (v : ByteArray) (i j : Nat) : (v.extract i j).data.toList = (v.data.toList.take j).drop i := by
  rw [ByteArray.data_extract, Array.toList_extract, List.extract_eq_take_drop, List.drop_take]
theorem replF_list (w : ByteArray) (i l : Nat) (by_ : ByteArray) : (replF w i l by_).data.toList = w.data.toList.take i ++ (by_.data.toList ++ w.data.toList.drop (i + l)) := by
  unfold replF
  rw [ByteArray.data_append, ByteArray.data_append, Array.toList_append, Array.toList_append, extract_lt, extract_lt, List.drop_zero, List.append_assoc]
  have h : w.data.toList.length = w.size := rfl
  rw [List.take_of_length_le (Nat.le_of_eq h)]
/-- the word behind a step -/
def applyF (R : List RulD) (w : ByteArray) (s : Nat × Nat) : ByteArray := replF w s.2 (nthR R s.1).1.size (nthR R s.1).2
theorem split_at {w l : ByteArray} {i : Nat} (h : preAt w i l = true) : w.data.toList = w.data.toList.take i ++ (l.data.toList ++ w.data.toList.drop (i + l.size)) := by
  obtain ⟨t, ht⟩ := List.isPrefixOf_iff_prefix.1 h
  have h2 : l.data.toList.length = l.size := rfl
  have h3 : w.data.toList.drop (i + l.size) = t := by
    rw [← List.drop_drop, ← ht, ← h2, List.drop_left]
  rw [h3, ht, List.take_append_drop]
/-- what a word is that a system takes -/
structure WdP (w : ByteArray) : Prop where
  len : w.size ≤ 16
  let4 : LW w.data.toList
theorem wdP_of {k : Int} {w : ByteArray} (h : wordOkB k w = true) : WdP w := by
  unfold wordOkB allB at h
  simp only [Bool.and_eq_true, List.all_eq_true, decide_eq_true_eq] at h
  refine ⟨h.2.1, fun y hy => ?_⟩
  have h1 := inB_bounds h.1
  have h2 := letB_true (h.2.2 y hy)
  omega
theorem lw_of {k : Int} {w : ByteArray} (h : wordOkB k w = true) : LW w.data.toList := (wdP_of h).let4
/-- a step of an ordered system makes a word less -/
theorem step_less {k : Int} {R : List RulD} (hs : sysP k R) {w : ByteArray} {s : Nat × Nat} (hm : s ∈ stepsF R w) : rk (applyF R w s).data.toList < rk w.data.toList := by
  obtain ⟨h1, h2, h3⟩ := mem_stepsF.1 hm
  have hr := nthR_mem h2
  have hp := hs.1.2 _ hr
  have hl := hs.2 _ hr
  unfold applyF
  rw [replF_list]
  conv => rhs; rw [split_at h3]
  exact rk_swap (lw_of hp.1.1.1) (lw_of hp.1.1.2) hl
theorem step_size {k : Int} {R : List RulD} (hs : sysP k R) {w : ByteArray} {s : Nat × Nat} (hm : s ∈ stepsF R w) : (applyF R w s).size ≤ w.size ∧ s.2 + (nthR R s.1).1.size ≤ w.size := by
  obtain ⟨h1, h2, h3⟩ := mem_stepsF.1 hm
  have hr := nthR_mem h2
  have hp := hs.1.2 _ hr
  have hl := hs.2 _ hr
  have hf := preAt_fits h3 (by have := hp.2; omega)
  have hle : (nthR R s.1).2.size ≤ (nthR R s.1).1.size := by
    unfold lessS ltW at hl
    have e1 : (blW (nthR R s.1).1).length = (nthR R s.1).1.size := rfl
    have e2 : (blW (nthR R s.1).2).length = (nthR R s.1).2.size := rfl
    rcases of_decide_eq_true hl with h | ⟨h, _⟩ <;> omega
  refine ⟨?_, hf⟩
  unfold applyF
  rw [replF_size hf]
  omega
/-- letters of the first k -/
def okLt (k : Int) (v : List UInt8) : Prop := ∀ y ∈ v, letB k y = true
theorem wordOk_iff {k : Int} {w : ByteArray} : wordOkB k w = true ↔ (1 ≤ k ∧ k ≤ 4) ∧ w.size ≤ 16 ∧ okLt k w.data.toList := by
  unfold wordOkB allB okLt
  rw [Bool.and_eq_true, Bool.and_eq_true, List.all_eq_true, decide_eq_true_eq]
  have h : inB k 1 4 = true ↔ 1 ≤ k ∧ k ≤ 4 := by simp [inB]
  rw [h]
theorem step_word {k : Int} {R : List RulD} (hs : sysP k R) {w : ByteArray} (hw : wordOkB k w = true) {s : Nat × Nat} (hm : s ∈ stepsF R w) : wordOkB k (applyF R w s) = true := by
  obtain ⟨h1, h2, h3⟩ := mem_stepsF.1 hm
  have hp := hs.1.2 _ (nthR_mem h2)
  obtain ⟨a1, a2, a3⟩ := wordOk_iff.1 hw
  obtain ⟨b1, b2, b3⟩ := wordOk_iff.1 hp.1.1.2
  refine wordOk_iff.2 ⟨a1, Nat.le_trans (step_size hs hm).1 a2, fun y hy => ?_⟩
  unfold applyF at hy
  rw [replF_list] at hy
  rcases List.mem_append.1 hy with hy | hy
  · exact a3 y ((List.take_sublist _ _).subset hy)
  rcases List.mem_append.1 hy with hy | hy
  · exact b3 y hy
  · exact a3 y ((List.drop_sublist _ _).subset hy)
/-- x is what the first steps lead to from w -/
inductive NormIs (R : List RulD) : ByteArray → ByteArray → Prop
  | done {w : ByteArray} : (stepsF R w).head? = none → NormIs R w w
  | step {w x : ByteArray} {s : Nat × Nat} : (stepsF R w).head? = some s → NormIs R (applyF R w s) x → NormIs R w x
theorem NormIs.uniq {R : List RulD} {w x y : ByteArray} (a : NormIs R w x) (b : NormIs R w y) : x = y := by
  induction a with
  | done h =>
    cases b with
    | done => rfl
    | step h' _ => rw [h] at h'; cases h'
  | step h _ ih =>
    cases b with
    | done h' => rw [h] at h'; cases h'
    | step h' b' =>
      rw [h] at h'
      cases h'
      exact ih b'
theorem head_mem {l : List (Nat × Nat)} {s : Nat × Nat} (h : l.head? = some s) : s ∈ l := by
  cases l with
  | nil => cases h
  | cons a l => cases h; exact List.mem_cons_self
theorem NormIs.ex {k : Int} {R : List RulD} (hs : sysP k R) : ∀ (n : Nat) (w : ByteArray), rk w.data.toList < n → wordOkB k w = true → ∃ x, NormIs R w x ∧ wordOkB k x = true
  | 0, w, h, _ => by omega
  | n + 1, w, h, hw => by
    cases hh : (stepsF R w).head? with
    | none => exact ⟨w, .done hh, hw⟩
    | some s =>
      have hm := head_mem hh
      have h1 := step_less hs hm
      obtain ⟨x, hx, hx2⟩ := NormIs.ex hs n (applyF R w s) (by omega) (step_word hs hw hm)
      exact ⟨x, .step hh hx, hx2⟩
theorem NormIs.word {k : Int} {R : List RulD} (hs : sysP k R) {w x : ByteArray} (h : NormIs R w x) (hw : wordOkB k w = true) : wordOkB k x = true := by
  obtain ⟨y, h1, h2⟩ := NormIs.ex hs _ w (Nat.lt_succ_self _) hw
  rw [h.uniq h1]; exact h2
end Go.Proofs.YtdpfgdckgchpdaaGreatDoor
