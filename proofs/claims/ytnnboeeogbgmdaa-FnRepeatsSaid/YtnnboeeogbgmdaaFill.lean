/-
  FillPattern, of the program and of the reference.
-/
import Derived.Test.YtnnboeeogbgmdaaFillP
import Derived.Shelf.Abstract
namespace Go.Proofs.Ytnnboeeogbgmdaa
open Go.RowKit
set_option linter.unusedVariables false
theorem indexByte_at (l : List UInt8) (c : UInt8) (h : c ∈ l) : ∃ k : Nat, Lib.indexByte l c = (k : Int) ∧ k < l.length ∧ l.getD k 0 = c ∧ ∀ z, z < k → l.getD z 0 ≠ c := by
  induction l with
  | nil => cases h
  | cons b l ih =>
    rw [show Lib.indexByte (b :: l) c = if b == c then 0 else if Lib.indexByte l c == -1 then -1 else Lib.indexByte l c + 1 from rfl]
    by_cases hb : b = c
    · exact ⟨0, by simp [hb], by simp, by simpa using hb, fun z hz => by omega⟩
    · have hm : c ∈ l := by
        rcases List.mem_cons.1 h with e | e
        · exact absurd e.symm hb
        · exact e
      obtain ⟨k, h1, h2, h3, h4⟩ := ih hm
      refine ⟨k + 1, ?_, by simpa using h2, by simpa using h3, fun z hz => ?_⟩
      · rw [if_neg (by simpa using hb), h1, if_neg (by simp)]; rfl
      · cases z with
        | zero => simpa using hb
        | succ z => simpa using h4 z (by omega)
theorem mem_push {a : ByteArray} {c d : UInt8} : d ∈ (a ++ ⟨#[c]⟩).data.toList ↔ d ∈ a.data.toList ∨ d = c := by simp
theorem contains_iff {a : ByteArray} {c : UInt8} : decide (0 ≤ Lib.indexByte a.data.toList c) = true ↔ c ∈ a.data.toList := by
  rw [indexByte_mem]; exact List.contains_iff_mem
theorem varsTo_var (s : ByteArray) : ∀ j, ∀ c ∈ (varsTo s j).data.toList, isVarB c = true
  | 0, c, h => by simp [varsTo] at h
  | j + 1, c, h => by
    simp only [varsTo, addVar] at h
    split at h
    · rename_i hc
      rcases mem_push.1 h with h | rfl
      · exact varsTo_var s j c h
      · simp only [Bool.and_eq_true] at hc; exact hc.1
    · exact varsTo_var s j c h
theorem varsTo_has {s : ByteArray} {i : Nat} (hi : i < s.size) (hv : isVarB s[i] = true) : ∀ j, i < j → s[i] ∈ (varsTo s j).data.toList
  | 0, h => by omega
  | j + 1, h => by
    simp only [varsTo, addVar]
    rcases Nat.lt_or_ge i j with hlt | hge
    · have := varsTo_has hi hv j hlt
      split
      · exact mem_push.2 (.inl this)
      · exact this
    · obtain rfl : i = j := by omega
      rw [byte_getD hi]
      split
      · exact mem_push.2 (.inr rfl)
      · rename_i hc
        rw [hv, Bool.true_and] at hc
        have : decide (0 ≤ Lib.indexByte (varsTo s i).data.toList s[i]) = true := by
          cases hd : decide (0 ≤ Lib.indexByte (varsTo s i).data.toList s[i])
          · rw [hd] at hc; exact absurd rfl hc
          · rfl
        exact contains_iff.1 this
theorem vars_has {s : ByteArray} {i : Nat} (hi : i < s.size) : decide (0 ≤ Lib.indexByte (varsOf s).data.toList s[i]) = isVarB s[i] := by
  cases hv : isVarB s[i]
  · cases hd : decide (0 ≤ Lib.indexByte (varsOf s).data.toList s[i])
    · rfl
    · have := varsTo_var s s.size _ (contains_iff.1 hd)
      rw [hv] at this; cases this
  · exact contains_iff.2 (varsTo_has hi hv s.size hi)
/-- the place of a variable -/
def vpos (s : ByteArray) (i : Nat) : Nat := (Lib.indexByte (varsOf s).data.toList (s.data.toList.getD i 0)).toNat
theorem vpos_at {s : ByteArray} {i : Nat} (hi : i < s.size) (hv : isVarB s[i] = true) : Lib.indexByte (varsOf s).data.toList s[i] = (vpos s i : Int) ∧ vpos s i < (varsOf s).size := by
  obtain ⟨k, h1, h2, _⟩ := indexByte_at _ _ (varsTo_has hi hv s.size hi)
  have : vpos s i = k := by unfold vpos; rw [byte_getD hi]; show (Lib.indexByte (varsTo s s.size).data.toList s[i]).toNat = k; rw [h1]; simp
  rw [this]
  refine ⟨h1, ?_⟩
  show k < (varsTo s s.size).size
  simpa using h2
theorem places_head {s : ByteArray} {c : UInt8} (h : c ∈ s.data.toList) : ∃ k : Nat, Lib.indexByte s.data.toList c = (k : Int) ∧ 0 < (placesL s ⟨#[c]⟩).length ∧ nthZ (placesL s ⟨#[c]⟩) 0 = (k : Int) := by
  obtain ⟨k, h1, h2, h3, h4⟩ := indexByte_at _ _ h
  have hk : k < s.size := by simpa using h2
  refine ⟨k, h1, ?_⟩
  have e : placesL s ⟨#[c]⟩ = ((k : Int) :: (((List.range s.size).drop (k + 1)).filter (plB s ⟨#[c]⟩)).map Int.ofNat) := by
    unfold placesL listTo
    rw [show s.size + 1 - (ByteArray.mk #[c]).size = s.size from by show s.size + 1 - 1 = _; omega]
    have hd : (List.range s.size).drop k = k :: (List.range s.size).drop (k + 1) := by rw [List.drop_eq_getElem_cons (by simpa using hk)]; simp
    have h5 : List.range s.size = (List.range s.size).take k ++ (k :: (List.range s.size).drop (k + 1)) := by rw [← hd, List.take_append_drop]
    have h6 : ((List.range s.size).take k).filter (plB s ⟨#[c]⟩) = [] := by
      rw [List.filter_eq_nil_iff]
      intro z hz
      rw [List.take_range] at hz
      have hz := List.mem_range.1 hz
      rw [plB_one (by omega)]
      simpa using h4 z (by omega)
    have h7 : plB s ⟨#[c]⟩ k = true := by rw [plB_one hk, h3]; simp
    rw [h5, List.filter_append, h6, List.nil_append, List.filter_cons, if_pos h7, ← h5]
    rfl
  rw [e]
  exact ⟨by simp, by simp [nthZ]⟩
/-- the text that the first j bytes of a pattern become -/
def fillTo (p : ByteArray) (vs : List ByteArray) : Nat → ByteArray
  | 0 => ⟨#[]⟩
  | j + 1 => fillTo p vs j ++ (if isVarB (p.data.toList.getD j 0) then nthS vs (vpos p j) else ⟨#[p.data.toList.getD j 0]⟩)
def fillOk (p : ByteArray) (vs : List ByteArray) : Bool := patternOkB p && (decide (vs.length = (varsOf p).size) && !vs.any badW)
/-- FillPattern as a function of plain data -/
def fillF (p : ByteArray) (vs : List ByteArray) : ByteArray := if fillOk p vs = true then fillTo p vs p.size else ⟨#[]⟩
theorem fillF_not {p : ByteArray} {vs : List ByteArray} (h : fillOk p vs = false) : fillF p vs = ⟨#[]⟩ := by simp [fillF, h]
theorem fillF_yes {p : ByteArray} {vs : List ByteArray} (h : fillOk p vs = true) : fillF p vs = fillTo p vs p.size := by simp [fillF, h]
theorem fillTo_var {p : ByteArray} {vs : List ByteArray} {j : Nat} (hj : j < p.size) (h : isVarB p[j] = true) : fillTo p vs (j + 1) = fillTo p vs j ++ nthS vs (vpos p j) := by
  simp only [fillTo, byte_getD hj, h, if_true]
theorem fillTo_let {p : ByteArray} {vs : List ByteArray} {j : Nat} (hj : j < p.size) (h : isVarB p[j] = false) : fillTo p vs (j + 1) = fillTo p vs j ++ ⟨#[p[j]]⟩ := by
  simp only [fillTo, byte_getD hj, h]; rfl
theorem badW_size {s : ByteArray} (h : badW s = false) : s.size ≤ 16 := by
  simp [badW, wordOkB] at h
  exact h.2.2.1
theorem good_at {vs : List ByteArray} (h : vs.any badW = false) {j : Nat} (hj : j < vs.length) : (nthS vs j).size ≤ 16 := by
  rw [List.any_eq_false] at h
  have := h vs[j] (List.getElem_mem hj)
  rw [nthS_lt hj]
  exact badW_size (by simpa using this)
theorem fillTo_size {p : ByteArray} {vs : List ByteArray} (hl : vs.length = (varsOf p).size) (h : vs.any badW = false) : ∀ j, j ≤ p.size → (fillTo p vs j).size ≤ 16 * j
  | 0, _ => Nat.zero_le _
  | j + 1, hj => by
    have h1 := fillTo_size hl h j (by omega)
    cases hv : isVarB p[j]
    · rw [fillTo_let (by omega) hv, ByteArray.size_append, show (ByteArray.mk #[p[j]]).size = 1 from rfl]; omega
    · have h2 := vpos_at (by omega) hv
      have := good_at h (j := vpos p j) (by omega)
      rw [fillTo_var (by omega) hv, ByteArray.size_append]; omega
theorem fillOk_not1 {p : ByteArray} {vs : List ByteArray} (h : patternOkB p = false) : fillOk p vs = false := by simp [fillOk, h]
theorem fillOk_not2 {p : ByteArray} {vs : List ByteArray} (h : ¬ vs.length = (varsOf p).size) : fillOk p vs = false := by simp [fillOk, h]
theorem fillOk_not3 {p : ByteArray} {vs : List ByteArray} (h : vs.any badW = true) : fillOk p vs = false := by simp only [fillOk, h]; simp
theorem fillOk_yes {p : ByteArray} {vs : List ByteArray} (h1 : patternOkB p = true) (h2 : vs.length = (varsOf p).size) (h : vs.any badW = false) : fillOk p vs = true := by simp only [fillOk, h1, h]; simp [h2]
theorem varsOf_size (p : ByteArray) : (varsOf p).size ≤ p.size := varsTo_size p p.size
theorem ret_sb {a b : ByteArray} {p q : Bool} (h : a = b) (h2 : p = q) : Ending.returned (.tuple #[.string a, .bool p]) = .returned (.tuple #[.string b, .bool q]) := by rw [h, h2]
/-- the first j values are good -/
theorem any_none {vs : List ByteArray} {j : Nat} (h : noneToS badW vs j) (hj : ¬ j < vs.length) : vs.any badW = false := by
  rw [List.any_eq_false]
  intro x hx
  obtain ⟨i, hi, rfl⟩ := List.getElem_of_mem hx
  have := h i (by omega)
  rw [nthS_lt hi] at this
  simp [this]
theorem any_some {vs : List ByteArray} {j : Nat} (hj : j < vs.length) (h : badW (nthS vs j) = true) : vs.any badW = true := by
  rw [List.any_eq_true]
  exact ⟨vs[j], List.getElem_mem hj, by rw [nthS_lt hj] at h; exact h⟩
end Go.Proofs.Ytnnboeeogbgmdaa
