/-
  Fits of a pattern: plain data.
-/
import Derived.Test.YtnnboeeogbgmdaaFill
namespace Go.Proofs.Ytnnboeeogbgmdaa
open Go.RowKit
set_option linter.unusedVariables false
/-- the bytes of a text -/
def bl (s : ByteArray) : List UInt8 := s.data.toList
theorem bl_len (s : ByteArray) : (bl s).length = s.size := by simp [bl]
/-- the text of some bytes -/
def tx (l : List UInt8) : ByteArray := ⟨l.toArray⟩
theorem tx_size (l : List UInt8) : (tx l).size = l.length := by simp [tx, ByteArray.size]
theorem tx_bl (s : ByteArray) : tx (bl s) = s := by simp [tx, bl]
theorem bl_tx (l : List UInt8) : bl (tx l) = l := by simp [tx, bl]
/-- the place of a variable among the names -/
def npos (nm : List UInt8) (c : UInt8) : Nat := (Lib.indexByte nm c).toNat
/-- all lists of values with which a pattern becomes a word -/
def fits (nm : List UInt8) : List UInt8 → List UInt8 → List ByteArray → List (List ByteArray)
  | [], w, vs => if w.length = 0 then [vs] else []
  | c :: p, w, vs =>
    if isVarB c = true then
      if npos nm c < vs.length then
        (if (bl (nthS vs (npos nm c))).isPrefixOf w = true then fits nm p (w.drop (nthS vs (npos nm c)).size) vs else [])
      else (List.range w.length).flatMap fun n => fits nm p (w.drop (n + 1)) (vs ++ [tx (w.take (n + 1))])
    else match w with
      | [] => []
      | b :: w' => if b = c then fits nm p w' vs else []
theorem fits_nil_yes {nm : List UInt8} {vs : List ByteArray} : fits nm [] [] vs = [vs] := by simp [fits]
theorem fits_nil_no {nm w : List UInt8} {vs : List ByteArray} (h : 0 < w.length) : fits nm [] w vs = [] := by simp only [fits, if_neg (show ¬ w.length = 0 by omega)]
theorem fits_let_nil {nm p : List UInt8} {c : UInt8} {vs : List ByteArray} (h : isVarB c = false) : fits nm (c :: p) [] vs = [] := by simp [fits, h]
theorem fits_let {nm p w : List UInt8} {b c : UInt8} {vs : List ByteArray} (h : isVarB c = false) (hb : b = c) : fits nm (c :: p) (b :: w) vs = fits nm p w vs := by simp [fits, h, hb]
theorem fits_let_no {nm p w : List UInt8} {b c : UInt8} {vs : List ByteArray} (h : isVarB c = false) (hb : ¬ b = c) : fits nm (c :: p) (b :: w) vs = [] := by simp [fits, h, hb]
theorem fits_old {nm p w : List UInt8} {c : UInt8} {vs : List ByteArray} (h : isVarB c = true) (hk : npos nm c < vs.length) (hp : (bl (nthS vs (npos nm c))).isPrefixOf w = true) :
    fits nm (c :: p) w vs = fits nm p (w.drop (nthS vs (npos nm c)).size) vs := by simp only [fits, h, hk, hp, if_true]
theorem fits_old_no {nm p w : List UInt8} {c : UInt8} {vs : List ByteArray} (h : isVarB c = true) (hk : npos nm c < vs.length) (hp : (bl (nthS vs (npos nm c))).isPrefixOf w = false) :
    fits nm (c :: p) w vs = [] := by simp only [fits, h, hk, hp, if_true]; rfl
/-- the fits with the first n of a new variable's values -/
def fitsTo (nm p w : List UInt8) (vs : List ByteArray) (n : Nat) : List (List ByteArray) := (List.range n).flatMap fun n => fits nm p (w.drop (n + 1)) (vs ++ [tx (w.take (n + 1))])
theorem fits_new {nm p w : List UInt8} {c : UInt8} {vs : List ByteArray} (h : isVarB c = true) (hk : ¬ npos nm c < vs.length) : fits nm (c :: p) w vs = fitsTo nm p w vs w.length := by
  simp only [fits, h, hk, if_true, if_false, fitsTo]
theorem fitsTo_zero (nm p w : List UInt8) (vs : List ByteArray) : fitsTo nm p w vs 0 = [] := rfl
theorem fitsTo_succ (nm p w : List UInt8) (vs : List ByteArray) (n : Nat) : fitsTo nm p w vs (n + 1) = fitsTo nm p w vs n ++ fits nm p (w.drop (n + 1)) (vs ++ [tx (w.take (n + 1))]) := by
  simp [fitsTo, List.range_succ]
/-- no value is empty -/
def Full (vs : List ByteArray) : Prop := ∀ j, j < vs.length → 1 ≤ (nthS vs j).size
theorem Full.snoc {vs : List ByteArray} {v : ByteArray} (h : Full vs) (hv : 1 ≤ v.size) : Full (vs ++ [v]) := fun j hj => by
  unfold nthS
  rw [List.length_append] at hj
  by_cases hlt : j < vs.length
  · rw [List.getD_eq_getElem?_getD, List.getElem?_append_left hlt]
    have := h j hlt
    unfold nthS at this
    rwa [List.getD_eq_getElem?_getD] at this
  · have : j = vs.length := by simp at hj; omega
    subst this
    rw [List.getD_eq_getElem?_getD, List.getElem?_append_right (Nat.le_refl _)]
    simpa using hv
/-- a pattern that is longer than a word does not fit -/
theorem fits_short (nm : List UInt8) : ∀ (p w : List UInt8) (vs : List ByteArray), Full vs → w.length < p.length → fits nm p w vs = []
  | [], w, vs, _, h => by simp at h
  | c :: p, w, vs, hf, h => by
    simp only [List.length_cons] at h
    cases hv : isVarB c
    · cases w with
      | nil => exact fits_let_nil hv
      | cons b w =>
        simp only [List.length_cons] at h
        by_cases hb : b = c
        · rw [fits_let hv hb]; exact fits_short nm p w vs hf (by omega)
        · exact fits_let_no hv hb
    · by_cases hk : npos nm c < vs.length
      · cases hp : (bl (nthS vs (npos nm c))).isPrefixOf w
        · exact fits_old_no hv hk hp
        · rw [fits_old hv hk hp]
          have h1 := hf _ hk
          have h2 := (List.isPrefixOf_iff_prefix.1 hp).length_le
          rw [bl_len] at h2
          exact fits_short nm p _ vs hf (by rw [List.length_drop]; omega)
      · rw [fits_new hv hk]
        have key : ∀ n, n ≤ w.length → fitsTo nm p w vs n = [] := fun n => by
          induction n with
          | zero => intro _; rfl
          | succ n ih =>
            intro hn
            rw [fitsTo_succ, ih (by omega), List.nil_append]
            exact fits_short nm p _ _ (hf.snoc (by rw [tx_size, List.length_take]; omega)) (by rw [List.length_drop]; omega)
        exact key _ (Nat.le_refl _)
/-- how many, or whether there is one -/
def cntF (one : Bool) (l : List (List ByteArray)) : Nat := if one = true then min 1 l.length else l.length
theorem cntF_nil (one : Bool) : cntF one [] = 0 := by cases one <;> rfl
end Go.Proofs.Ytnnboeeogbgmdaa
