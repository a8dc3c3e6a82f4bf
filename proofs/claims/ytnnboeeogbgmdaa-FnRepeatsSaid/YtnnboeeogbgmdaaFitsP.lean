/-
  FitsPattern: the least of all fits is the first one.
-/
import Derived.Test.YtnnboeeogbgmdaaCountF
namespace Go.Proofs.Ytnnboeeogbgmdaa
open Go.RowKit
set_option linter.unusedVariables false
/-- lists of words compared by the words' lengths -/
def cmpL : List ByteArray → List ByteArray → Int
  | [], [] => 0
  | [], _ :: _ => -1
  | _ :: _, [] => 1
  | a :: l, b :: m => if (a.size : Int) - (b.size : Int) = 0 then cmpL l m else (a.size : Int) - (b.size : Int)
theorem cmpL_pre : ∀ (vs l m : List ByteArray), cmpL (vs ++ l) (vs ++ m) = cmpL l m
  | [], l, m => rfl
  | v :: vs, l, m => by
    show (if (v.size : Int) - (v.size : Int) = 0 then cmpL (vs ++ l) (vs ++ m) else _) = _
    rw [if_pos (by omega)]; exact cmpL_pre vs l m
theorem cmpL_self (l : List ByteArray) : cmpL l l = 0 := by
  have := cmpL_pre l [] []
  rw [List.append_nil] at this
  rw [this]; rfl
theorem cmpL_big {vs l m : List ByteArray} {u v : ByteArray} (h : v.size < u.size) : 0 ≤ cmpL (vs ++ [u] ++ l) (vs ++ [v] ++ m) := by
  rw [List.append_assoc, List.append_assoc, cmpL_pre]
  show 0 ≤ (if (u.size : Int) - (v.size : Int) = 0 then _ else _)
  rw [if_neg (by omega)]; omega
theorem fits_ext (nm : List UInt8) : ∀ (p w : List UInt8) (vs x : List ByteArray), x ∈ fits nm p w vs → ∃ t, x = vs ++ t
  | [], w, vs, x, h => by
    unfold fits at h
    split at h
    · exact ⟨[], by rw [List.mem_singleton.1 h, List.append_nil]⟩
    · cases h
  | c :: p, w, vs, x, h => by
    cases hv : isVarB c
    · cases w with
      | nil => rw [fits_let_nil hv] at h; cases h
      | cons b w =>
        by_cases hb : b = c
        · rw [fits_let hv hb] at h; exact fits_ext nm p w vs x h
        · rw [fits_let_no hv hb] at h; cases h
    · by_cases hk : npos nm c < vs.length
      · cases hp : (bl (nthS vs (npos nm c))).isPrefixOf w
        · rw [fits_old_no hv hk hp] at h; cases h
        · rw [fits_old hv hk hp] at h; exact fits_ext nm p _ vs x h
      · rw [fits_new hv hk] at h
        unfold fitsTo at h
        obtain ⟨n, hn, h⟩ := List.mem_flatMap.1 h
        obtain ⟨t, rfl⟩ := fits_ext nm p _ _ x h
        exact ⟨[tx (w.take (n + 1))] ++ t, by rw [List.append_assoc]⟩
theorem fitsTo_ext {nm p w : List UInt8} {vs x : List ByteArray} {n : Nat} (h : x ∈ fitsTo nm p w vs n) : ∃ i t, i < n ∧ x = vs ++ [tx (w.take (i + 1))] ++ t := by
  unfold fitsTo at h
  obtain ⟨i, hi, h⟩ := List.mem_flatMap.1 h
  obtain ⟨t, ht⟩ := fits_ext nm p _ _ x h
  exact ⟨i, t, List.mem_range.1 hi, ht⟩
/-- the first fit is the least one -/
theorem fits_min (nm : List UInt8) : ∀ (p w : List UInt8) (vs h0 : List ByteArray) (r : List (List ByteArray)), fits nm p w vs = h0 :: r → ∀ x ∈ fits nm p w vs, 0 ≤ cmpL x h0
  | [], w, vs, h0, r, he, x, hx => by
    unfold fits at he hx
    split at he
    · rename_i hw
      rw [if_pos hw] at hx
      obtain ⟨rfl, _⟩ := List.cons.inj he
      rw [List.mem_singleton.1 hx, cmpL_self]; exact Int.le_refl _
    · cases he
  | c :: p, w, vs, h0, r, he, x, hx => by
    cases hv : isVarB c
    · cases w with
      | nil => rw [fits_let_nil hv] at he; cases he
      | cons b w =>
        by_cases hb : b = c
        · rw [fits_let hv hb] at he hx; exact fits_min nm p w vs h0 r he x hx
        · rw [fits_let_no hv hb] at he; cases he
    · by_cases hk : npos nm c < vs.length
      · cases hp : (bl (nthS vs (npos nm c))).isPrefixOf w
        · rw [fits_old_no hv hk hp] at he; cases he
        · rw [fits_old hv hk hp] at he hx; exact fits_min nm p _ vs h0 r he x hx
      · rw [fits_new hv hk] at he hx
        have key : ∀ n, n ≤ w.length → ∀ (h0 : List ByteArray) (r : List (List ByteArray)), fitsTo nm p w vs n = h0 :: r → ∀ x ∈ fitsTo nm p w vs n, 0 ≤ cmpL x h0 := fun n => by
          induction n with
          | zero => intro _ h0 r he; rw [fitsTo_zero] at he; cases he
          | succ n ih =>
            intro hn h0 r he x hx
            rw [fitsTo_succ] at he hx
            cases hf : fitsTo nm p w vs n with
            | nil =>
              rw [hf, List.nil_append] at he hx
              exact fits_min nm p _ _ h0 r he x hx
            | cons g q =>
              rw [hf] at he hx
              rw [List.cons_append] at he
              obtain ⟨rfl, _⟩ := List.cons.inj he
              rcases List.mem_append.1 hx with hx | hx
              · exact ih (by omega) g q hf x (by rw [hf]; exact hx)
              · obtain ⟨t, rfl⟩ := fits_ext nm p _ _ x hx
                obtain ⟨i, t2, hi, e2⟩ := fitsTo_ext (show g ∈ fitsTo nm p w vs n by rw [hf]; exact List.mem_cons_self)
                rw [e2]
                refine cmpL_big ?_
                rw [tx_size, tx_size, List.length_take, List.length_take]
                omega
        exact key _ (Nat.le_refl _) h0 r he x hx
/-- no fit is too long -/
theorem fits_vals (nm : List UInt8) : ∀ (p w : List UInt8) (vs x : List ByteArray) (B : Nat), w.length ≤ B → (∀ v ∈ vs, v.size ≤ B) → x ∈ fits nm p w vs → (∀ v ∈ x, v.size ≤ B) ∧ x.length ≤ vs.length + p.length
  | [], w, vs, x, B, hw, hv, h => by
    unfold fits at h
    split at h
    · rw [List.mem_singleton.1 h]; exact ⟨hv, by simp⟩
    · cases h
  | c :: p, w, vs, x, B, hw, hvs, h => by
    have hl : (c :: p).length = p.length + 1 := rfl
    cases hv : isVarB c
    · cases w with
      | nil => rw [fits_let_nil hv] at h; cases h
      | cons b w =>
        by_cases hb : b = c
        · rw [fits_let hv hb] at h
          have := fits_vals nm p w vs x B (by simp at hw; omega) hvs h
          exact ⟨this.1, by omega⟩
        · rw [fits_let_no hv hb] at h; cases h
    · by_cases hk : npos nm c < vs.length
      · cases hp : (bl (nthS vs (npos nm c))).isPrefixOf w
        · rw [fits_old_no hv hk hp] at h; cases h
        · rw [fits_old hv hk hp] at h
          have := fits_vals nm p _ vs x B (by rw [List.length_drop]; omega) hvs h
          exact ⟨this.1, by omega⟩
      · rw [fits_new hv hk] at h
        unfold fitsTo at h
        obtain ⟨n, hn, h⟩ := List.mem_flatMap.1 h
        have := fits_vals nm p _ _ x B (by rw [List.length_drop]; omega) (fun v hv2 => by
          rcases List.mem_append.1 hv2 with h1 | h1
          · exact hvs v h1
          · rw [List.mem_singleton.1 h1, tx_size, List.length_take]; omega) h
        exact ⟨this.1, by have := this.2; simp at this; omega⟩
/-- the first fit -/
def fitH (p s : ByteArray) : List ByteArray := nthF (fitL p s) 0
theorem fitH_min {p s : ByteArray} {i : Nat} (hi : i < (fitL p s).length) : 0 ≤ cmpL (nthF (fitL p s) i) (fitH p s) := by
  have hm : nthF (fitL p s) i ∈ fitL p s := by
    unfold nthF
    rw [List.getD_eq_getElem?_getD, List.getElem?_eq_getElem hi]; exact List.getElem_mem hi
  unfold fitH
  cases hf : fitL p s with
  | nil => rw [hf] at hi; simp at hi
  | cons h r =>
    have := fits_min _ _ _ _ h r hf _ hm
    rw [hf] at this
    exact this
theorem fitL_vals {p s : ByteArray} (hp8 : p.size ≤ 8) (hs : s.size ≤ 16) {i : Nat} (hi : i < (fitL p s).length) : (∀ v ∈ nthF (fitL p s) i, v.size ≤ 16) ∧ (nthF (fitL p s) i).length ≤ 8 := by
  have hm : nthF (fitL p s) i ∈ fitL p s := by
    unfold nthF
    rw [List.getD_eq_getElem?_getD, List.getElem?_eq_getElem hi]; exact List.getElem_mem hi
  have := fits_vals _ _ _ _ _ 16 (by rw [bl_len]; exact hs) (fun v hv => by cases hv) hm
  rw [bl_len, List.length_nil] at this
  exact ⟨this.1, by omega⟩
theorem fitL_count {p s : ByteArray} (hp8 : p.size ≤ 8) (hs : s.size ≤ 16) : (fitL p s).length ≤ 6975757441 := by
  unfold fitL
  have h1 := fits_count (bl (varsOf p)) (bl p) (bl s) [] (by rw [bl_len]; exact hs)
  have h2 : 17 ^ (bl p).length ≤ 17 ^ 8 := Nat.pow_le_pow_right (by omega) (by rw [bl_len]; exact hp8)
  omega
theorem cmpL_drop {l m : List ByteArray} {j : Nat} (hl : j < l.length) (hm : j < m.length) : cmpL (l.drop j) (m.drop j) = if ((nthS l j).size : Int) - ((nthS m j).size : Int) = 0 then cmpL (l.drop (j + 1)) (m.drop (j + 1)) else ((nthS l j).size : Int) - ((nthS m j).size : Int) := by
  rw [List.drop_eq_getElem_cons hl, List.drop_eq_getElem_cons hm, nthS_lt hl, nthS_lt hm]; rfl
theorem cmpL_out {l m : List ByteArray} {j : Nat} (hl : j < l.length) (hm : ¬ j < m.length) : cmpL (l.drop j) (m.drop j) = 1 := by
  rw [List.drop_eq_getElem_cons hl, show m.drop j = [] from List.drop_of_length_le (by omega)]; rfl
theorem cmpL_end {l m : List ByteArray} {j : Nat} (hl : ¬ j < l.length) (h : ¬ l.length < m.length) (hj : j ≤ l.length) : cmpL (l.drop j) (m.drop j) = 0 := by
  rw [show l.drop j = [] from List.drop_of_length_le (by omega), show m.drop j = [] from List.drop_of_length_le (by omega)]; rfl
theorem cmpL_short {l m : List ByteArray} {j : Nat} (hl : ¬ j < l.length) (h : l.length < m.length) (hj : j ≤ l.length) : cmpL (l.drop j) (m.drop j) = -1 := by
  rw [show l.drop j = [] from List.drop_of_length_le (by omega), List.drop_eq_getElem_cons (show j < m.length by omega)]; rfl
end Go.Proofs.Ytnnboeeogbgmdaa
