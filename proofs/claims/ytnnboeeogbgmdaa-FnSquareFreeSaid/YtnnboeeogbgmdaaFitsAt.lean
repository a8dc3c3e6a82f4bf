/-
  Rows of lists of values.
-/
import Derived.Test.YtnnboeeogbgmdaaBeg
import Derived.Test.YtnnboeeogbgmdaaAppM
namespace Go.Proofs.Ytnnboeeogbgmdaa
open Go.RowKit
set_option linter.unusedVariables false
def nthF (F : List (List ByteArray)) (i : Nat) : List ByteArray := F.getD i []
/-- a row of slices holds lists of values -/
def FitsAt (w : World) (ok : Nat → Prop) (xs : List Value) (F : List (List ByteArray)) : Prop :=
  xs.length = F.length ∧ ∀ i, i < F.length → ∃ b off c, xs[i]? = some (.slice (some ⟨b, off, none⟩) (nthF F i).length c) ∧ StrsIn w (some ⟨b, off, none⟩) (nthF F i) ∧ b < w.heap.size ∧ ok b
theorem FitsAt.nil (w : World) (ok : Nat → Prop) : FitsAt w ok [] [] := ⟨rfl, fun i hi => absurd hi (Nat.not_lt_zero _)⟩
theorem FitsAt.one {w : World} {ok : Nat → Prop} {b off c : Nat} {vs : List ByteArray} (h : StrsIn w (some ⟨b, off, none⟩) vs) (hb : b < w.heap.size) (hok : ok b) : FitsAt w ok [.slice (some ⟨b, off, none⟩) vs.length c] [vs] :=
  ⟨rfl, fun i hi => by
    have : i = 0 := by simp at hi; omega
    subst this
    exact ⟨b, off, c, rfl, h, hb, hok⟩⟩
theorem FitsAt.append {w : World} {ok : Nat → Prop} {xs ys : List Value} {F G : List (List ByteArray)} (h : FitsAt w ok xs F) (h2 : FitsAt w ok ys G) : FitsAt w ok (xs ++ ys) (F ++ G) := by
  refine ⟨by simp [h.1, h2.1], fun i hi => ?_⟩
  unfold nthF
  rw [List.getD_eq_getElem?_getD]
  by_cases hlt : i < F.length
  · rw [List.getElem?_append_left (by rw [h.1]; exact hlt), List.getElem?_append_left hlt, ← List.getD_eq_getElem?_getD]
    exact h.2 i hlt
  · rw [List.getElem?_append_right (by rw [h.1]; omega), List.getElem?_append_right (by omega), ← List.getD_eq_getElem?_getD, h.1]
    exact h2.2 (i - F.length) (by simp at hi; omega)
theorem FitsAt.mono {w : World} {ok ok' : Nat → Prop} {xs : List Value} {F : List (List ByteArray)} (h : FitsAt w ok xs F) (hk : ∀ b, b < w.heap.size → ok b → ok' b) : FitsAt w ok' xs F :=
  ⟨h.1, fun i hi => by obtain ⟨b, off, c, h1, h2, h3, h4⟩ := h.2 i hi; exact ⟨b, off, c, h1, h2, h3, hk b h3 h4⟩⟩
theorem FitsAt.later {w w' : World} {ok : Nat → Prop} {xs : List Value} {F : List (List ByteArray)} (h : FitsAt w ok xs F) (hb : Below w.heap.size w w') : FitsAt w' ok xs F :=
  ⟨h.1, fun i hi => by obtain ⟨b, off, c, h1, h2, h3, h4⟩ := h.2 i hi; exact ⟨b, off, c, h1, h2.later hb, Nat.lt_of_lt_of_le h3 hb.size, h4⟩⟩
theorem FitsAt.grown {w w' : World} {own : Option Nat} {ok : Nat → Prop} {xs : List Value} {F : List (List ByteArray)} (h : FitsAt w ok xs F) (hg : w.grownBy w' own) (hk : ∀ b, ok b → own ≠ some b) : FitsAt w' ok xs F :=
  ⟨h.1, fun i hi => by
    obtain ⟨b, off, c, h1, h2, h3, h4⟩ := h.2 i hi
    refine ⟨b, off, c, h1, ?_, Nat.lt_of_lt_of_le h3 hg.size, h4⟩
    rcases h2 with h2 | ⟨b', off', ha, hc⟩
    · exact .inl h2
    · have hab := Option.some.inj ha
      simp only [Addr.mk.injEq, and_true] at hab
      obtain ⟨rfl, rfl⟩ := hab
      refine .inr ⟨_, _, rfl, fun j hj => ?_⟩
      rw [World.cell?_of_block (w := w) (hg.block _ h3 (fun e => hk _ h4 e.symm))]
      exact hc j hj⟩
theorem FitsAt.oneCell {w : World} {ok : Nat → Prop} {xs : List Value} {F : List (List ByteArray)} (h : FitsAt w ok xs F) : ∀ u ∈ xs, u.oneCell' = true := fun u hu => by
  obtain ⟨i, hi, rfl⟩ := List.getElem_of_mem hu
  obtain ⟨b, off, c, h1, _⟩ := h.2 i (by rw [← h.1]; exact hi)
  rw [List.getElem?_eq_getElem hi] at h1
  rw [Option.some.inj h1]; rfl
/-- all of them, or the first one -/
def cutF (one : Bool) (l : List (List ByteArray)) : List (List ByteArray) := if one = true then l.take 1 else l
theorem cutF_nil (one : Bool) : cutF one [] = [] := by cases one <;> rfl
theorem cutF_one (one : Bool) (x : List ByteArray) : cutF one [x] = [x] := by cases one <;> rfl
theorem cutF_app_empty {one : Bool} {l m : List (List ByteArray)} (h : one = true → l = []) : cutF one (l ++ m) = cutF one l ++ cutF one m := by
  cases one
  · rfl
  · rw [h rfl]; rfl
theorem cutF_done {l m : List (List ByteArray)} (h : 0 < (cutF true l).length) : cutF true (l ++ m) = cutF true l := by
  cases l with
  | nil => simp [cutF] at h
  | cons a l => rfl
theorem cutF_empty {l : List (List ByteArray)} (h : ¬ 0 < (cutF true l).length) : l = [] := by
  cases l with
  | nil => rfl
  | cons a l => simp [cutF] at h
theorem cutF_len (one : Bool) (l : List (List ByteArray)) : (cutF one l).length ≤ l.length := by
  cases one
  · exact Nat.le_refl _
  · simp [cutF]; omega
theorem fitsTo_pre (nm p w : List UInt8) (vs : List ByteArray) {n m : Nat} (h : n ≤ m) : ∃ r, fitsTo nm p w vs m = fitsTo nm p w vs n ++ r := by
  induction m with
  | zero => exact ⟨[], by rw [Nat.le_zero.1 h]; simp⟩
  | succ m ih =>
    rcases Nat.lt_or_ge n (m + 1) with hlt | hge
    · obtain ⟨r, hr⟩ := ih (by omega)
      exact ⟨r ++ fits nm p (w.drop (m + 1)) (vs ++ [tx (w.take (m + 1))]), by rw [fitsTo_succ, hr, List.append_assoc]⟩
    · obtain rfl : n = m + 1 := by omega
      exact ⟨[], by simp⟩
/-- there are not too many -/
theorem fits_count (nm : List UInt8) : ∀ (p w : List UInt8) (vs : List ByteArray), w.length ≤ 16 → (fits nm p w vs).length ≤ 17 ^ p.length
  | [], w, vs, h => by
    unfold fits
    split <;> simp
  | c :: p, w, vs, h => by
    have hpos : 17 ^ p.length ≤ 17 ^ (c :: p).length := Nat.pow_le_pow_right (by omega) (by simp)
    cases hv : isVarB c
    · cases w with
      | nil => rw [fits_let_nil hv]; exact Nat.zero_le _
      | cons b w =>
        by_cases hb : b = c
        · rw [fits_let hv hb]; exact Nat.le_trans (fits_count nm p w vs (by simp at h; omega)) hpos
        · rw [fits_let_no hv hb]; exact Nat.zero_le _
    · by_cases hk : npos nm c < vs.length
      · cases hp : (bl (nthS vs (npos nm c))).isPrefixOf w
        · rw [fits_old_no hv hk hp]; exact Nat.zero_le _
        · rw [fits_old hv hk hp]; exact Nat.le_trans (fits_count nm p _ vs (by rw [List.length_drop]; omega)) hpos
      · rw [fits_new hv hk]
        have key : ∀ n, (fitsTo nm p w vs n).length ≤ n * 17 ^ p.length := fun n => by
          induction n with
          | zero => simp [fitsTo_zero]
          | succ n ih =>
            rw [fitsTo_succ, List.length_append, Nat.succ_mul]
            have := fits_count nm p (w.drop (n + 1)) (vs ++ [tx (w.take (n + 1))]) (by rw [List.length_drop]; omega)
            omega
        have h1 := key w.length
        have h2 : w.length * 17 ^ p.length ≤ 17 * 17 ^ p.length := Nat.mul_le_mul_right _ (by omega)
        rw [List.length_cons, Nat.pow_succ, Nat.mul_comm]
        omega
end Go.Proofs.Ytnnboeeogbgmdaa
